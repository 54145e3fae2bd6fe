/-
  Contract of fano.Make: numbers that can be told. Conditions: the list can be read as data and may be told.
-/
import Derived.Test.YteblkbgcnoepnaaFanoMake
import Derived.Deep.CutRange
namespace Go.Dam
open Go Go.RowKit
set_option linter.unusedVariables false
theorem IsWords.six {wr : World} {B K : Nat} {T : TypeId} {v : Value} {ws : List Nat} {a0 a1 a2 a3 a4 a5 b0 b1 b2 b3 b4 b5 : Value} (h : IsWords wr B v ws) (hb : Blk wr K T #[b0, b1, b2, b3, b4, b5])
    (n0 : ∀ n, b0 ≠ .int .u64 n) (n1 : ∀ n, b1 ≠ .int .u64 n) (n2 : ∀ n, b2 ≠ .int .u64 n) (n3 : ∀ n, b3 ≠ .int .u64 n) (n4 : ∀ n, b4 ≠ .int .u64 n) (n5 : ∀ n, b5 ≠ .int .u64 n) :
    IsWords ((((((wr.setCell ⟨K, 0, none⟩ a0).setCell ⟨K, 1, none⟩ a1).setCell ⟨K, 2, none⟩ a2).setCell ⟨K, 3, none⟩ a3).setCell ⟨K, 4, none⟩ a4).setCell ⟨K, 5, none⟩ a5) B v ws :=
  (((((h.beside (hb.cell 0) n0 a0).beside ((hb.set_ 0 a0).cell 1) n1 a1).beside (((hb.set_ 0 a0).set_ 1 a1).cell 2) n2 a2).beside ((((hb.set_ 0 a0).set_ 1 a1).set_ 2 a2).cell 3) n3 a3).beside (((((hb.set_ 0 a0).set_ 1 a1).set_ 2 a2).set_ 3 a3).cell 4) n4 a4).beside ((((((hb.set_ 0 a0).set_ 1 a1).set_ 2 a2).set_ 3 a3).set_ 4 a4).cell 5) n5 a5
theorem blk_bools {w : World} {g n : Nat} {t : TypeId} {l : List Bool} (h : Blk w g t (l.map Value.bool).toArray) (hn : l.length = n) (hl : n ≤ 140737488351232) : IsBools w w.heap.size (.slice (some ⟨g, 0, none⟩) n n) l :=
  own_bools (own_of_blk (base := 0) h (Nat.zero_le _) (by simpa using hn) hl) (by omega)
theorem falses_arr (n : Nat) : ((List.replicate n false).map Value.bool).toArray = falsesV n := by rw [← falsesV_eq]; simp
theorem bools_set {l : List Bool} {i : Nat} : ((l.map Value.bool).toArray).setIfInBounds i (.bool true) = ((l.set i true).map Value.bool).toArray := by
  rw [List.map_set]; simp
end Go.Dam
namespace Go.Proofs.Yteblkbgcnoepnaa
open Go Go.RowKit Go.Dam
set_option linter.unusedVariables false
set_option maxRecDepth 100000 in
set_option maxHeartbeats 1000000 in
theorem fanoMake_some (b : Nat) (v : Value) (l : List Int) (W N : Nat) (n1 m1 : Int) (ws1 : List Nat) (c1 : Int) (w : World) (B : Nat) (hB : B ≤ w.heap.size) (h : IsInts .i64 w B v l) (hl : l.length ≤ 300) (hl0 : 0 < l.length) (hb : b ≤ 1048576) (hok : OkF b l) (hW : WidF b l.length W)
    (hP : PackR W (lowF W l) n1 m1 ws1 c1) (hN : N = b / 2 ^ W + l.length + 1) :
    Calls Try.prog 27 #[.int .i64 b, v] w (GivesFano b n1 m1 ws1 N (packW (highF W l N l.length) ((N + 63) / 64) N) 0 w) := by
  have hW20 := hW.le hb
  have hhi := hW.high hl0
  obtain ⟨hs, hend⟩ := okF_iff.1 hok
  have hend2 : 0 ≤ l.getD 0 0 ∧ l.getD (l.length - 1) 0 ≤ (b : Int) := by
    rcases hend with h | h
    · omega
    · exact h
  have HSt := Lib.hid fun Wx (hW : Below w.heap.size w Wx) => isSorted_any v l true Wx B (h.below (hW.mono hB)) (.inl ⟨rfl, hs⟩)
  have HWd := Lib.hid fun Wx => fanoWidth_any b l.length W Wx hb hl hW
  have HOk := Lib.hid hok
  obtain ⟨A, c, rfl, hc, hm, hbb, hr, hw⟩ := h
  obtain ⟨bb, off, rfl, hbB, hcells⟩ := ints_cells hr hl0
  obtain ⟨Q, hQ⟩ : ∃ Q : Nat, Q = 2 ^ W := ⟨_, rfl⟩
  have hQb : Q ≤ 1048576 := by
    have h1 : 2 ^ W ≤ 2 ^ 20 := Nat.pow_le_pow_right (by decide) hW20
    omega
  have hQ0 : 0 < Q := by rw [hQ]; exact Nat.pow_pos (by decide)
  have hpi : (2 : Int) ^ W = (Q : Int) := by rw [hQ]; simp
  obtain ⟨D, hD⟩ : ∃ D : Nat, D = b / Q := ⟨_, rfl⟩
  have hdb : (b : Int) / (Q : Int) = (D : Int) := by rw [hD]; simp
  have hND : N = D + l.length + 1 := by rw [hN, hD, hQ]
  have hD600 : D < 600 := by rw [hD, hQ]; omega
  clear hN
  subst hND
  have HD := Lib.hid hD
  have HQ := Lib.hid hQ
  have HP := Lib.hid hP
  have hlp' : (0 : Int) < (l.length : Int) := by omega
  have hls : (l.length : Int) - 1 = ((l.length - 1 : Nat) : Int) := by omega
  have hlt1 : l.length - 1 < l.length := by omega
  have hbw : bb < w.heap.size := by omega
  have k0 := hcells 0 hl0
  have k1 := hcells (l.length - 1) hlt1
  rw [Nat.add_zero] at k0
  have HC := Lib.hid hcells
  have hmk1 := fun w' => run_make1 el_bool rfl ((D : Int) + (l.length : Int) + 1) (D + l.length + 1) (by omega) (by omega) (by omega) w'
  have hmk2 := fun w' => run_make1 el_int rfl (l.length : Int) l.length rfl (by omega) (by omega) w'
  simp only [falsesV_eq] at hmk1
  simp only [zerosV_eq] at hmk2
  have HA := Lib.hid ((Below.refl w.heap.size w).alloc (Nat.le_refl _) (.cells #[.int .i64 0, .int .i64 0, .int .i64 0, .slice none 0 0, .int .i64 0, .slice none 0 0] 45))
  have HBk := Lib.hid (Blk.new w 45 #[.int .i64 0, .int .i64 0, .int .i64 0, .slice none 0 0, .int .i64 0, .slice none 0 0])
  have hx0 := hend2.1
  have hx1 := hend2.2
  clear hcells hs hend hend2 hok hW hP hD hQ hhi
  generalize l.getD 0 0 = x0 at *
  generalize l.getD (l.length - 1) 0 = x1 at *
  generalize l.length - 1 = e1 at *
  have hx0' : ¬ x0 < 0 := by omega
  have hx1' : ¬ (b : Int) < x1 := by omega
  have g1 : decide ((300 : Int) < (l.length : Int)) = false := decide_eq_false (by omega)
  have g2 : decide ((b : Int) < 0) = false := decide_eq_false (by omega)
  have g3 : decide ((1048576 : Int) < (b : Int)) = false := decide_eq_false (by omega)
  have g4 : decide (x0 < 0) = false := decide_eq_false hx0'
  have g5 : decide ((b : Int) < x1) = false := decide_eq_false hx1'
  go_enter Try.func27, Try.ntmps27
  go_upto_region 10 with (first
    | (go_at_call 56; refine (HSt.out _ HA.out).mono ?_; rintro e w1 ⟨rfl, ⟨nd, rfl⟩⟩)
    | (go_at_call 57; refine (HWd.out _).mono ?_; rintro e w1 ⟨rfl, rfl⟩))
  have hsz : ((w.alloc (.cells #[.int .i64 0, .int .i64 0, .int .i64 0, .slice none 0 0, .int .i64 0, .slice none 0 0] 45)).drewN nd).heap.size = w.heap.size + 1 := by simp
  have HA2 := Lib.hid (below_drewN HA.out nd)
  have HB2 := Lib.hid (HBk.out.drewN nd)
  generalize (w.alloc (.cells #[.int .i64 0, .int .i64 0, .int .i64 0, .slice none 0 0, .int .i64 0, .slice none 0 0] 45)).drewN nd = w1 at *
  go_wp2_with fail
  go_loopw [71] (fun iv wr => ∃ i : Nat, i ≤ l.length ∧ iv = .int .i64 i ∧ Blk wr (w.heap.size + 1) 4 (((highF W l (D + l.length + 1) i).map Value.bool).toArray) ∧ IBlk .i64 3 wr (w.heap.size + 1 + 1) (lowS W l i) ∧ Blk wr w.heap.size 45 #[.int .i64 0, .int .i64 0, .int .i64 0, .slice none 0 0, .int .i64 0, .slice none 0 0] ∧ Below w.heap.size w wr) (fun iv _ => l.length - (intOf iv).toNat)
  case atStart => exact ⟨0, by omega, rfl, by rw [highF_0, falses_arr]; exact (Blk.new_at _ _ _ _ (by omega)).alloc _, by rw [lowS_0]; exact IBlk.zerosV_at _ _ _ _ (by simp; omega), (HB2.out.alloc _).alloc _, (HA2.out.alloc (by omega) _).alloc (by simp; omega) _⟩
  case round =>
    obtain ⟨i, hi, rfl, hhi, hlo, hres, hbel⟩ := hrel
    have HHi := Lib.hid hhi
    have HLo := Lib.hid hlo
    have HRes := Lib.hid hres
    have HBe := Lib.hid hbel
    have hz := hlo.lt
    by_cases hlt : i < l.length
    · obtain ⟨hxa, hxb, _⟩ := HOk.out i hlt
      obtain ⟨x, hx⟩ : ∃ x : Nat, l.getD i 0 = x := ⟨(l.getD i 0).toNat, by omega⟩
      have hxb2 : x ≤ b := by omega
      have k2 := (hbel.cell (p := ⟨bb, off + i, none⟩) (by simp; omega)).trans (HC.out i hlt)
      rw [hx] at k2
      have hand := and_mask x Q W HQ.out (by omega) (by omega)
      obtain ⟨E, hE⟩ : ∃ E : Nat, E = x / Q := ⟨_, rfl⟩
      have hxd : (x : Int) / (Q : Int) = (E : Int) := by rw [hE]; simp
      have hED : E ≤ D := by rw [hE, HD.out]; exact Nat.div_le_div_right hxb2
      have klo := hlo.cell (i := i) (by rw [lowS_length]; exact hlt)
      have flo := hlo.frozen i
      have fhi := hhi.frozen (E + i)
      have khi : ∃ y, wr.cell? ⟨w.heap.size + 1, E + i, none⟩ = some (.bool y) := by
        rw [hhi.cell]
        have h1 : E + i < (highF W l (D + l.length + 1) i).length := by rw [highF_length]; omega
        exact ⟨(highF W l (D + l.length + 1) i)[E + i], by simp [h1]⟩
      obtain ⟨y, khi⟩ := khi
      have HL2 := Lib.hid (hlo.set i ((x : Int) % (Q : Int)))
      have eL : (lowS W l i).set i ((x : Int) % (Q : Int)) = lowS W l (i + 1) := by rw [lowS_succ, hx, hpi]
      have HEL := Lib.hid eL
      have HEH : Hid ((((highF W l (D + l.length + 1) i).map Value.bool).toArray).setIfInBounds (E + i) (.bool true) = ((highF W l (D + l.length + 1) (i + 1)).map Value.bool).toArray) := Lib.hid (by rw [bools_set, highF_succ, hx, Int.toNat_natCast, hE, HQ.out])
      have hEi : (E : Int) + (i : Int) < ((D + l.length + 1 : Nat) : Int) := by omega
      clear hhi hlo hres hbel hx hE hxa hxb eL
      generalize (lowS W l i).getD i 0 = lo0 at *
      go_wp2_with fail
      have hlo2 := HL2.out.far (p := ⟨w.heap.size + 1, E + i, none⟩) (by simp) (.bool true)
      have hhi2 := (HHi.out.far (p := ⟨w.heap.size + 1 + 1, i, none⟩) (by simp) (.int .i64 ((x : Int) % (Q : Int)))).set_ (E + i) (.bool true)
      rw [HEL.out] at hlo2
      rw [HEH.out] at hhi2
      refine ⟨⟨i + 1, by omega, by go_num, hhi2, hlo2, (HRes.out.far (p := ⟨w.heap.size + 1 + 1, i, none⟩) (by simp; omega) _).far (p := ⟨w.heap.size + 1, E + i, none⟩) (by simp) _, (HBe.out.setCell (p := ⟨w.heap.size + 1 + 1, i, none⟩) (by simp; omega) _).setCell (p := ⟨w.heap.size + 1, E + i, none⟩) (by simp) _⟩, by simp [intOf]; omega⟩
    · obtain rfl : i = l.length := by omega
      rw [lowS_end] at hlo
      have hll := lowF_length W l
      have hIl := hlo.isInts (by rw [hll]; omega) (fun z hz => by
        have := lowF_mem hz
        rw [hpi] at this
        simp [Lit.wf, IntKind.min, IntKind.max, IntKind.signed, IntKind.bits]; omega)
      rw [hll] at hIl
      have hbF := hbel.alloc (by omega) (.cells #[.int .i64 b, .int .i64 0, .int .i64 0, .slice none 0 0, .int .i64 0, .slice none 0 0] 45)
      have HPm := Lib.hid (packMake_any (.slice (some ⟨w.heap.size + 1 + 1, 0, none⟩) l.length l.length) W (lowF W l) n1 m1 ws1 c1 (wr.alloc (.cells #[.int .i64 b, .int .i64 0, .int .i64 0, .slice none 0 0, .int .i64 0, .slice none 0 0] 45)) wr.heap.size (by simp) (hIl.below ((Below.refl _ _).alloc (Nat.le_refl _) _)) (by rw [hll]; exact hl) (by omega) HP.out)
      have HHl := Lib.hid (highF_length W l (D + l.length + 1) l.length)
      clear hhi hlo hres hbel hll hIl HC HOk
      generalize highF W l (D + l.length + 1) l.length = H at *
      have hRF : w.heap.size < wr.heap.size := by omega
      go_upto_region 20 with (go_at_call 58; refine (HPm.out).mono ?_; rintro e w2 ⟨s1, rfl, ⟨A1, p1, rfl, h1⟩, hb2⟩; have HW1 : Hid (IsWords w2 w2.heap.size (.slice A1 ws1.length p1) ws1) := Lib.hid ⟨A1, p1, rfl, h1⟩; clear h1; have hz2 := size_box hb2; have HF2 := Lib.hid ((Blk.new wr 45 #[.int .i64 b, .int .i64 0, .int .i64 0, .slice none 0 0, .int .i64 0, .slice none 0 0]).below hb2 (by simp)); have j1 := HF2.out.cell 1; have j2 := HF2.out.cell 2; have j3 := HF2.out.cell 3; have f1 := HF2.out.frozen 1; have f2 := HF2.out.frozen 2; have f3 := HF2.out.frozen 3; have HB2' := Lib.hid hb2; clear hb2)
      have hF2 := HF2.out
      have hb2 := HB2'.out
      have HF3 := Lib.hid (((hF2.set_ 1 (.int .i64 n1)).set_ 2 (.int .i64 m1)).set_ 3 (.slice A1 ws1.length p1))
      have HW3 := Lib.hid (((HW1.out.beside (p := ⟨wr.heap.size, 1, none⟩) (hF2.cell 1) (by intro n e; simp at e) (.int .i64 n1)).beside (p := ⟨wr.heap.size, 2, none⟩) ((hF2.set_ 1 _).cell 2) (by intro n e; simp at e) (.int .i64 m1)).beside (p := ⟨wr.heap.size, 3, none⟩) (((hF2.set_ 1 _).set_ 2 _).cell 3) (by intro n e; simp at e) (.slice A1 ws1.length p1))
      have HH3 := Lib.hid (((((HHi.out.alloc _).below hb2 (by simp; omega)).far (p := ⟨wr.heap.size, 1, none⟩) (by simp; omega) (.int .i64 n1)).far (p := ⟨wr.heap.size, 2, none⟩) (by simp; omega) (.int .i64 m1)).far (p := ⟨wr.heap.size, 3, none⟩) (by simp; omega) (.slice A1 ws1.length p1))
      have HR3 := Lib.hid (((((HRes.out.alloc _).below hb2 (by simp; omega)).far (p := ⟨wr.heap.size, 1, none⟩) (by simp; omega) (.int .i64 n1)).far (p := ⟨wr.heap.size, 2, none⟩) (by simp; omega) (.int .i64 m1)).far (p := ⟨wr.heap.size, 3, none⟩) (by simp; omega) (.slice A1 ws1.length p1))
      have HB3 := Lib.hid ((((HBe.out.trans ((below_box hb2).mono (by omega))).setCell (p := ⟨wr.heap.size, 1, none⟩) (by simp; omega) (.int .i64 n1)).setCell (p := ⟨wr.heap.size, 2, none⟩) (by simp; omega) (.int .i64 m1)).setCell (p := ⟨wr.heap.size, 3, none⟩) (by simp; omega) (.slice A1 ws1.length p1))
      have hsz3 : (((w2.setCell ⟨wr.heap.size, 1, none⟩ (.int .i64 n1)).setCell ⟨wr.heap.size, 2, none⟩ (.int .i64 m1)).setCell ⟨wr.heap.size, 3, none⟩ (.slice A1 ws1.length p1)).heap.size = w2.heap.size := by simp
      have HS3 := Lib.hid hsz3
      clear hF2 hb2 HF2 HB2' HW1 j1 j2 j3 f1 f2 f3 hsz3
      generalize (((w2.setCell ⟨wr.heap.size, 1, none⟩ (.int .i64 n1)).setCell ⟨wr.heap.size, 2, none⟩ (.int .i64 m1)).setCell ⟨wr.heap.size, 3, none⟩ (.slice A1 ws1.length p1)) = w3 at *
      rw [← HS3.out] at HW3 hz2
      have HMk := Lib.hid (make_any (.slice (some ⟨w.heap.size + 1, 0, none⟩) (D + l.length + 1) (D + l.length + 1)) H w3 _ (Nat.le_refl _) (blk_bools HH3.out HHl.out (by omega)) (by rw [HHl.out]; omega))
      rw [HHl.out] at HMk
      generalize hws2 : packW H ((D + l.length + 1 + 63) / 64) (D + l.length + 1) = ws2 at *
      clear hws2
      go_wp2_with (go_at_call 51; refine (HMk.out).mono ?_; rintro e w4 ⟨s2, rfl, ⟨A2, p2, rfl, h2⟩, hb4⟩; have HW4 : Hid (IsWords w4 w4.heap.size (.slice A2 ws2.length p2) ws2) := Lib.hid ⟨A2, p2, rfl, h2⟩; clear h2; have hz4 := hb4.size; have HF4 := Lib.hid (HF3.out.below hb4 HF3.out.lt); have HR4 := Lib.hid (HR3.out.below hb4 HR3.out.lt); have HW1 := Lib.hid ((HW3.out.below hb4).more hz4); have HB4 := Lib.hid (HB3.out.trans (hb4.mono HB3.out.size)); have j0 := HF4.out.cell 0; have j1 := HF4.out.cell 1; have j2 := HF4.out.cell 2; have j3 := HF4.out.cell 3; have j4 := HF4.out.cell 4; have j5 := HF4.out.cell 5; have f4 := HF4.out.frozen 4; have f5 := HF4.out.frozen 5; have r0 := HR4.out.cell 0; have r1 := HR4.out.cell 1; have r2 := HR4.out.cell 2; have r3 := HR4.out.cell 3; have r4 := HR4.out.cell 4; have r5 := HR4.out.cell 5; have q0 := HR4.out.frozen 0; have q1 := HR4.out.frozen 1; have q2 := HR4.out.frozen 2; have q3 := HR4.out.frozen 3; have q4 := HR4.out.frozen 4; have q5 := HR4.out.frozen 5; clear hb4)
      have HR5 := Lib.hid ((HR4.out.far (p := ⟨wr.heap.size, 4, none⟩) (by simp; omega) (.int .i64 ((D : Int) + (l.length : Int) + 1))).far (p := ⟨wr.heap.size, 5, none⟩) (by simp; omega) (.slice A2 ws2.length p2))
      have hw1 := (HW1.out.beside (p := ⟨wr.heap.size, 4, none⟩) (HF4.out.cell 4) (by intro n e; simp at e) (.int .i64 ((D : Int) + (l.length : Int) + 1))).beside (p := ⟨wr.heap.size, 5, none⟩) ((HF4.out.set_ 4 _).cell 5) (by intro n e; simp at e) (.slice A2 ws2.length p2)
      have hw2 := (HW4.out.beside (p := ⟨wr.heap.size, 4, none⟩) (HF4.out.cell 4) (by intro n e; simp at e) (.int .i64 ((D : Int) + (l.length : Int) + 1))).beside (p := ⟨wr.heap.size, 5, none⟩) ((HF4.out.set_ 4 _).cell 5) (by intro n e; simp at e) (.slice A2 ws2.length p2)
      have hb5 := (HB4.out.setCell (p := ⟨wr.heap.size, 4, none⟩) (by simp; omega) (.int .i64 ((D : Int) + (l.length : Int) + 1))).setCell (p := ⟨wr.heap.size, 5, none⟩) (by simp; omega) (.slice A2 ws2.length p2)
      have hsz5 : ((w4.setCell ⟨wr.heap.size, 4, none⟩ (.int .i64 ((D : Int) + (l.length : Int) + 1))).setCell ⟨wr.heap.size, 5, none⟩ (.slice A2 ws2.length p2)).heap.size = w4.heap.size := by simp
      have HS5 := Lib.hid hsz5
      rw [← HS5.out] at hw1 hw2
      clear hsz5 j0 j1 j2 j3 j4 j5 f4 f5 r0 r1 r2 r3 r4 r5 q0 q1 q2 q3 q4 q5
      generalize (w4.setCell ⟨wr.heap.size, 4, none⟩ (.int .i64 ((D : Int) + (l.length : Int) + 1))).setCell ⟨wr.heap.size, 5, none⟩ (.slice A2 ws2.length p2) = w5 at *
      have hr6 := res6 (a0 := .int .i64 b) (a1 := .int .i64 n1) (a2 := .int .i64 m1) (a3 := .slice A1 ws1.length p1) (a4 := .int .i64 ((D : Int) + (l.length : Int) + 1)) (a5 := .slice A2 ws2.length p2) HR5.out
      have hs1 := hw1.six (a0 := .int .i64 b) (a1 := .int .i64 n1) (a2 := .int .i64 m1) (a3 := .slice A1 ws1.length p1) (a4 := .int .i64 ((D : Int) + (l.length : Int) + 1)) (a5 := .slice A2 ws2.length p2) HR5.out (by intro n e; simp at e) (by intro n e; simp at e) (by intro n e; simp at e) (by intro n e; simp at e) (by intro n e; simp at e) (by intro n e; simp at e)
      have hs2 := hw2.six (a0 := .int .i64 b) (a1 := .int .i64 n1) (a2 := .int .i64 m1) (a3 := .slice A1 ws1.length p1) (a4 := .int .i64 ((D : Int) + (l.length : Int) + 1)) (a5 := .slice A2 ws2.length p2) HR5.out (by intro n e; simp at e) (by intro n e; simp at e) (by intro n e; simp at e) (by intro n e; simp at e) (by intro n e; simp at e) (by intro n e; simp at e)
      have hb6 := below6 (a0 := .int .i64 b) (a1 := .int .i64 n1) (a2 := .int .i64 m1) (a3 := .slice A1 ws1.length p1) (a4 := .int .i64 ((D : Int) + (l.length : Int) + 1)) (a5 := .slice A2 ws2.length p2) hb5 (Nat.le_refl w.heap.size)
      have hsz6 : ((((((w5.setCell ⟨w.heap.size, 0, none⟩ (.int .i64 b)).setCell ⟨w.heap.size, 1, none⟩ (.int .i64 n1)).setCell ⟨w.heap.size, 2, none⟩ (.int .i64 m1)).setCell ⟨w.heap.size, 3, none⟩ (.slice A1 ws1.length p1)).setCell ⟨w.heap.size, 4, none⟩ (.int .i64 ((D : Int) + (l.length : Int) + 1))).setCell ⟨w.heap.size, 5, none⟩ (.slice A2 ws2.length p2)).heap.size = w5.heap.size := by simp
      have hcast : ((D + l.length + 1 : Nat) : Int) = (D : Int) + (l.length : Int) + 1 := by omega
      rw [hcast]
      have HS6 := Lib.hid hsz6
      rw [← HS6.out] at hs1 hs2
      clear hcast hsz6 hmk1 hmk2
      generalize (((((w5.setCell ⟨w.heap.size, 0, none⟩ (.int .i64 b)).setCell ⟨w.heap.size, 1, none⟩ (.int .i64 n1)).setCell ⟨w.heap.size, 2, none⟩ (.int .i64 m1)).setCell ⟨w.heap.size, 3, none⟩ (.slice A1 ws1.length p1)).setCell ⟨w.heap.size, 4, none⟩ (.int .i64 ((D : Int) + (l.length : Int) + 1))).setCell ⟨w.heap.size, 5, none⟩ (.slice A2 ws2.length p2) = w6 at *
      have c0 := hr6.cell 0
      have c1 := hr6.cell 1
      have c2 := hr6.cell 2
      have c3 := hr6.cell 3
      have c4 := hr6.cell 4
      have c5 := hr6.cell 5
      exact bodyPost_ret (v := .tuple #[.agg #[.int .i64 b, .int .i64 n1, .int .i64 m1, .slice A1 ws1.length p1, .int .i64 ((D : Int) + (l.length : Int) + 1), .slice A2 ws2.length p2], .int .i64 0]) (by simp [results, Try.results27, go_sem, c0, c1, c2, c3, c4, c5]) rfl ⟨_, _, rfl, hs1, hs2, hb6⟩
end Go.Proofs.Yteblkbgcnoepnaa
