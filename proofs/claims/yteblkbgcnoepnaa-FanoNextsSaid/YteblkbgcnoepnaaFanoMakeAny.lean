/-
  Contract of fano.Make, whole. Conditions: the list can be read as data.
-/
import Derived.Test.YteblkbgcnoepnaaFanoMakeOk
namespace Go.Proofs.Yteblkbgcnoepnaa
open Go Go.RowKit Go.Dam
set_option linter.unusedVariables false
theorem isInts_zero (w : World) (B : Nat) (A : Option Addr) (c : Nat) (hc : c ≤ maxLen) : IsInts .i64 w B (.slice A 0 c) [] :=
  ⟨A, c, rfl, Nat.zero_le _, hc, by simp, ⟨by simp, fun h => absurd h (by simp)⟩, fun z hz => by cases hz⟩
set_option maxRecDepth 100000 in
set_option maxHeartbeats 1000000 in
theorem fanoMake_zero (b : Nat) (v : Value) (n1 m1 : Int) (ws1 : List Nat) (c1 : Int) (w : World) (B : Nat) (hB : B ≤ w.heap.size) (h : IsInts .i64 w B v []) (hb : b ≤ 1048576) (hP : PackR 0 [] n1 m1 ws1 c1) :
    Calls Try.prog 27 #[.int .i64 b, v] w (GivesFano b n1 m1 ws1 0 (packW (highF 0 [] 0 0) ((0 + 63) / 64) 0) 0 w) := by
  have HH0 : Hid (highF 0 [] 0 0 = []) := Lib.hid (by rw [highF_0]; rfl)
  obtain ⟨ws2, hws2⟩ : ∃ x, x = packW (highF 0 [] 0 0) ((0 + 63) / 64) 0 := ⟨_, rfl⟩
  have HWR : Hid (ws2 = packW [] ((0 + 63) / 64) 0) := Lib.hid (by rw [hws2, HH0.out])
  rw [← hws2]
  clear hws2 HH0
  have HSt := Lib.hid fun Wx (hW : Below w.heap.size w Wx) => isSorted_any v [] true Wx B (h.below (hW.mono hB)) (.inl ⟨rfl, fun i hi => absurd hi (by simp)⟩)
  have HWd := Lib.hid fun Wx => fanoWidth_any b 0 0 Wx hb (by omega) (by unfold WidF; exact .inl ⟨rfl, rfl⟩)
  have HP := Lib.hid hP
  obtain ⟨A, c, hv, hc, hm, _, _, _⟩ := h
  obtain rfl : v = .slice A 0 c := hv
  have hmk2 := fun w' => run_make1 el_int rfl (0 : Int) 0 rfl (by omega) (by omega) w'
  simp only [zerosV_eq] at hmk2
  have HA := Lib.hid ((Below.refl w.heap.size w).alloc (Nat.le_refl _) (.cells #[.int .i64 0, .int .i64 0, .int .i64 0, .slice none 0 0, .int .i64 0, .slice none 0 0] 45))
  have HBk := Lib.hid (Blk.new w 45 #[.int .i64 0, .int .i64 0, .int .i64 0, .slice none 0 0, .int .i64 0, .slice none 0 0])
  have g2 : decide ((b : Int) < 0) = false := decide_eq_false (by omega)
  have g3 : decide ((1048576 : Int) < (b : Int)) = false := decide_eq_false (by omega)
  clear hP
  go_enter Try.func27, Try.ntmps27
  go_upto_region 11 with (first
    | (go_at_call 56; refine (HSt.out _ HA.out).mono ?_; rintro e w1 ⟨rfl, ⟨nd, rfl⟩⟩)
    | (go_at_call 57; refine (HWd.out _).mono ?_; rintro e w1 ⟨rfl, rfl⟩))
  have hsz : ((w.alloc (.cells #[.int .i64 0, .int .i64 0, .int .i64 0, .slice none 0 0, .int .i64 0, .slice none 0 0] 45)).drewN nd).heap.size = w.heap.size + 1 := by simp
  have HA2 := Lib.hid (below_drewN HA.out nd)
  have HB2 := Lib.hid (HBk.out.drewN nd)
  generalize (w.alloc (.cells #[.int .i64 0, .int .i64 0, .int .i64 0, .slice none 0 0, .int .i64 0, .slice none 0 0] 45)).drewN nd = w1 at *
  go_wp2_with fail
  go_loopw [71] (fun iv wr => iv = .int .i64 0 ∧ Blk wr w.heap.size 45 #[.int .i64 0, .int .i64 0, .int .i64 0, .slice none 0 0, .int .i64 0, .slice none 0 0] ∧ Below w.heap.size w wr) (fun _ _ => 0)
  case atStart => exact ⟨rfl, HB2.out.alloc _, HA2.out.alloc (by omega) _⟩
  case round =>
    obtain ⟨rfl, hres, hbel⟩ := hrel
    have HRes := Lib.hid hres
    have HBe := Lib.hid hbel
    have hz := hres.lt
    have HPm := Lib.hid (packMake_any (.slice (some ⟨w.heap.size + 1, 0, none⟩) 0 0) 0 [] n1 m1 ws1 c1 (wr.alloc (.cells #[.int .i64 b, .int .i64 0, .int .i64 0, .slice none 0 0, .int .i64 0, .slice none 0 0] 45)) wr.heap.size (by simp) (isInts_zero _ _ _ _ (Nat.zero_le _)) (by simp) (by omega) HP.out)
    clear hres hbel
    have hRF : w.heap.size < wr.heap.size := by omega
    go_upto_region 20 with (go_at_call 58; refine (HPm.out).mono ?_; rintro e w2 ⟨s1, rfl, ⟨A1, p1, rfl, h1⟩, hb2⟩; have HW1 : Hid (IsWords w2 w2.heap.size (.slice A1 ws1.length p1) ws1) := Lib.hid ⟨A1, p1, rfl, h1⟩; clear h1; have hz2 := size_box hb2; have HF2 := Lib.hid ((Blk.new wr 45 #[.int .i64 b, .int .i64 0, .int .i64 0, .slice none 0 0, .int .i64 0, .slice none 0 0]).below hb2 (by simp)); have j1 := HF2.out.cell 1; have j2 := HF2.out.cell 2; have j3 := HF2.out.cell 3; have f1 := HF2.out.frozen 1; have f2 := HF2.out.frozen 2; have f3 := HF2.out.frozen 3; have HB2' := Lib.hid hb2; clear hb2)
    have hF2 := HF2.out
    have hb2 := HB2'.out
    have HF3 := Lib.hid (((hF2.set_ 1 (.int .i64 n1)).set_ 2 (.int .i64 m1)).set_ 3 (.slice A1 ws1.length p1))
    have HW3 := Lib.hid (((HW1.out.beside (p := ⟨wr.heap.size, 1, none⟩) (hF2.cell 1) (by intro n e; simp at e) (.int .i64 n1)).beside (p := ⟨wr.heap.size, 2, none⟩) ((hF2.set_ 1 _).cell 2) (by intro n e; simp at e) (.int .i64 m1)).beside (p := ⟨wr.heap.size, 3, none⟩) (((hF2.set_ 1 _).set_ 2 _).cell 3) (by intro n e; simp at e) (.slice A1 ws1.length p1))
    have HR3 := Lib.hid (((((HRes.out.alloc _).below hb2 (by simp; omega)).far (p := ⟨wr.heap.size, 1, none⟩) (by simp; omega) (.int .i64 n1)).far (p := ⟨wr.heap.size, 2, none⟩) (by simp; omega) (.int .i64 m1)).far (p := ⟨wr.heap.size, 3, none⟩) (by simp; omega) (.slice A1 ws1.length p1))
    have HB3 := Lib.hid ((((HBe.out.trans ((below_box hb2).mono (by omega))).setCell (p := ⟨wr.heap.size, 1, none⟩) (by simp; omega) (.int .i64 n1)).setCell (p := ⟨wr.heap.size, 2, none⟩) (by simp; omega) (.int .i64 m1)).setCell (p := ⟨wr.heap.size, 3, none⟩) (by simp; omega) (.slice A1 ws1.length p1))
    have hsz3 : (((w2.setCell ⟨wr.heap.size, 1, none⟩ (.int .i64 n1)).setCell ⟨wr.heap.size, 2, none⟩ (.int .i64 m1)).setCell ⟨wr.heap.size, 3, none⟩ (.slice A1 ws1.length p1)).heap.size = w2.heap.size := by simp
    have HS3 := Lib.hid hsz3
    clear hF2 hb2 HF2 HB2' HW1 j1 j2 j3 f1 f2 f3 hsz3
    generalize (((w2.setCell ⟨wr.heap.size, 1, none⟩ (.int .i64 n1)).setCell ⟨wr.heap.size, 2, none⟩ (.int .i64 m1)).setCell ⟨wr.heap.size, 3, none⟩ (.slice A1 ws1.length p1)) = w3 at *
    rw [← HS3.out] at HW3 hz2
    have HMk : Hid (Calls Try.prog 51 #[.slice none 0 0] w3 (GivesRow 0 (packW [] ((0 + 63) / 64) 0) 0 w3)) := Lib.hid (make_any (.slice none 0 0) [] w3 _ (Nat.le_refl _) (own_bools (World.ownsRow_nil w3 w3.heap.size 4 1) (by simp)) (by simp))
    rw [← HWR.out] at HMk
    go_wp2_with (go_at_call 51; refine (HMk.out).mono ?_; rintro e w4 ⟨s2, rfl, ⟨A2, p2, rfl, h2⟩, hb4⟩; have HW4 : Hid (IsWords w4 w4.heap.size (.slice A2 ws2.length p2) ws2) := Lib.hid ⟨A2, p2, rfl, h2⟩; clear h2; have hz4 := hb4.size; have HF4 := Lib.hid (HF3.out.below hb4 HF3.out.lt); have HR4 := Lib.hid (HR3.out.below hb4 HR3.out.lt); have HW1 := Lib.hid ((HW3.out.below hb4).more hz4); have HB4 := Lib.hid (HB3.out.trans (hb4.mono HB3.out.size)); have j0 := HF4.out.cell 0; have j1 := HF4.out.cell 1; have j2 := HF4.out.cell 2; have j3 := HF4.out.cell 3; have j4 := HF4.out.cell 4; have j5 := HF4.out.cell 5; have f4 := HF4.out.frozen 4; have f5 := HF4.out.frozen 5; have r0 := HR4.out.cell 0; have r1 := HR4.out.cell 1; have r2 := HR4.out.cell 2; have r3 := HR4.out.cell 3; have r4 := HR4.out.cell 4; have r5 := HR4.out.cell 5; have q0 := HR4.out.frozen 0; have q1 := HR4.out.frozen 1; have q2 := HR4.out.frozen 2; have q3 := HR4.out.frozen 3; have q4 := HR4.out.frozen 4; have q5 := HR4.out.frozen 5; clear hb4)
    have HR5 := Lib.hid ((HR4.out.far (p := ⟨wr.heap.size, 4, none⟩) (by simp; omega) (.int .i64 0)).far (p := ⟨wr.heap.size, 5, none⟩) (by simp; omega) (.slice A2 ws2.length p2))
    have hw1 := (HW1.out.beside (p := ⟨wr.heap.size, 4, none⟩) (HF4.out.cell 4) (by intro n e; simp at e) (.int .i64 0)).beside (p := ⟨wr.heap.size, 5, none⟩) ((HF4.out.set_ 4 _).cell 5) (by intro n e; simp at e) (.slice A2 ws2.length p2)
    have hw2 := (HW4.out.beside (p := ⟨wr.heap.size, 4, none⟩) (HF4.out.cell 4) (by intro n e; simp at e) (.int .i64 0)).beside (p := ⟨wr.heap.size, 5, none⟩) ((HF4.out.set_ 4 _).cell 5) (by intro n e; simp at e) (.slice A2 ws2.length p2)
    have hb5 := (HB4.out.setCell (p := ⟨wr.heap.size, 4, none⟩) (by simp; omega) (.int .i64 0)).setCell (p := ⟨wr.heap.size, 5, none⟩) (by simp; omega) (.slice A2 ws2.length p2)
    have hsz5 : ((w4.setCell ⟨wr.heap.size, 4, none⟩ (.int .i64 0)).setCell ⟨wr.heap.size, 5, none⟩ (.slice A2 ws2.length p2)).heap.size = w4.heap.size := by simp
    have HS5 := Lib.hid hsz5
    rw [← HS5.out] at hw1 hw2
    clear hsz5 j0 j1 j2 j3 j4 j5 f4 f5 r0 r1 r2 r3 r4 r5 q0 q1 q2 q3 q4 q5
    generalize (w4.setCell ⟨wr.heap.size, 4, none⟩ (.int .i64 0)).setCell ⟨wr.heap.size, 5, none⟩ (.slice A2 ws2.length p2) = w5 at *
    have hr6 := res6 (a0 := .int .i64 b) (a1 := .int .i64 n1) (a2 := .int .i64 m1) (a3 := .slice A1 ws1.length p1) (a4 := .int .i64 0) (a5 := .slice A2 ws2.length p2) HR5.out
    have hs1 := hw1.six (a0 := .int .i64 b) (a1 := .int .i64 n1) (a2 := .int .i64 m1) (a3 := .slice A1 ws1.length p1) (a4 := .int .i64 0) (a5 := .slice A2 ws2.length p2) HR5.out (by intro n e; simp at e) (by intro n e; simp at e) (by intro n e; simp at e) (by intro n e; simp at e) (by intro n e; simp at e) (by intro n e; simp at e)
    have hs2 := hw2.six (a0 := .int .i64 b) (a1 := .int .i64 n1) (a2 := .int .i64 m1) (a3 := .slice A1 ws1.length p1) (a4 := .int .i64 0) (a5 := .slice A2 ws2.length p2) HR5.out (by intro n e; simp at e) (by intro n e; simp at e) (by intro n e; simp at e) (by intro n e; simp at e) (by intro n e; simp at e) (by intro n e; simp at e)
    have hb6 := below6 (a0 := .int .i64 b) (a1 := .int .i64 n1) (a2 := .int .i64 m1) (a3 := .slice A1 ws1.length p1) (a4 := .int .i64 0) (a5 := .slice A2 ws2.length p2) hb5 (Nat.le_refl w.heap.size)
    have hsz6 : ((((((w5.setCell ⟨w.heap.size, 0, none⟩ (.int .i64 b)).setCell ⟨w.heap.size, 1, none⟩ (.int .i64 n1)).setCell ⟨w.heap.size, 2, none⟩ (.int .i64 m1)).setCell ⟨w.heap.size, 3, none⟩ (.slice A1 ws1.length p1)).setCell ⟨w.heap.size, 4, none⟩ (.int .i64 0)).setCell ⟨w.heap.size, 5, none⟩ (.slice A2 ws2.length p2)).heap.size = w5.heap.size := by simp
    have HS6 := Lib.hid hsz6
    rw [← HS6.out] at hs1 hs2
    clear hsz6 hmk2
    generalize (((((w5.setCell ⟨w.heap.size, 0, none⟩ (.int .i64 b)).setCell ⟨w.heap.size, 1, none⟩ (.int .i64 n1)).setCell ⟨w.heap.size, 2, none⟩ (.int .i64 m1)).setCell ⟨w.heap.size, 3, none⟩ (.slice A1 ws1.length p1)).setCell ⟨w.heap.size, 4, none⟩ (.int .i64 0)).setCell ⟨w.heap.size, 5, none⟩ (.slice A2 ws2.length p2) = w6 at *
    have c0 := hr6.cell 0
    have c1 := hr6.cell 1
    have c2 := hr6.cell 2
    have c3 := hr6.cell 3
    have c4 := hr6.cell 4
    have c5 := hr6.cell 5
    exact bodyPost_ret (v := .tuple #[.agg #[.int .i64 b, .int .i64 n1, .int .i64 m1, .slice A1 ws1.length p1, .int .i64 0, .slice A2 ws2.length p2], .int .i64 0]) (by simp [results, Try.results27, go_sem, c0, c1, c2, c3, c4, c5]) rfl ⟨_, _, rfl, hs1, hs2, hb6⟩
theorem fanoMake_any (bound : Int) (v : Value) (l : List Int) (bd n1 m1 : Int) (ws1 : List Nat) (n2 : Int) (ws2 : List Nat) (cc : Int) (w : World) (B : Nat) (hB : B ≤ w.heap.size) (hb64 : I64 bound) (h : IsInts .i64 w B v l)
    (hR : FanoR bound l bd n1 m1 ws1 n2 ws2 cc (fun W l n m ws => ∃ c, PackR W l n m ws c)) :
    Calls Try.prog 27 #[.int .i64 bound, v] w (GivesFano bd n1 m1 ws1 n2 ws2 cc w) := by
  rcases hR with ⟨_, rfl, rfl, rfl, rfl, rfl, rfl, hR⟩ | ⟨rfl, hl, hok, b, W, rfl, hb, hW, rfl, ⟨c1, hP⟩, rfl, rfl⟩
  · exact fanoMake_bad bound v l cc w B hB hb64 h hR
  · rcases Nat.eq_zero_or_pos l.length with h0 | h0
    · obtain rfl : l = [] := List.length_eq_zero_iff.1 h0
      obtain rfl : W = 0 := by
        have h1 : WidF b 0 0 := by unfold WidF; exact .inl ⟨rfl, rfl⟩
        exact WidF.uniq hW h1
      have e : lowF 0 [] = [] := List.eq_nil_of_length_eq_zero (by rw [lowF_length]; rfl)
      rw [e] at hP
      exact fanoMake_zero b v n1 m1 ws1 c1 w B hB h hb hP
    · have e : lenF b l.length W = b / 2 ^ W + l.length + 1 := by unfold lenF; rw [if_neg (by omega)]
      exact fanoMake_some b v l W _ n1 m1 ws1 c1 w B hB h hl h0 hb hok hW hP e
end Go.Proofs.Yteblkbgcnoepnaa
