/-
  Contract of the reference's ClosestOf (with dist2): the closest pair, how far it is, or the code of what is refused. Conditions: the points can be read as data.
-/
import Derived.Test.YtaipnjoeejgnnaaClosePlain
import Derived.Test.YtaipnjoeejgnnaaRefPoints
import Derived.Test.YtaipnjoeejgnnaaKleePlain
import Derived.Test.YtaipnjoeejgnnaaImageSave
import Derived.Lib.QuietBelow
namespace Go.Dam
open Go Go.RowKit
/-- What Closest answers. -/
def ClosAns (l : List Int) (n : Nat) (a b f c : Int) : Prop :=
  (ptCode n l ≠ 0 ∧ a = 0 ∧ b = 0 ∧ f = 0 ∧ c = ptCode n l) ∨ (ptCode n l = 0 ∧ n < 2 ∧ a = 0 ∧ b = 0 ∧ f = 0 ∧ c = 7) ∨
  (ptCode n l = 0 ∧ 2 ≤ n ∧ c = 0 ∧ ∃ a' b' : Nat, a = a' ∧ b = b' ∧ ClosR l n a' b' f)
theorem ClosAns.ex (l : List Int) (n : Nat) : ∃ a b f c, ClosAns l n a b f c := by
  by_cases h : ptCode n l = 0
  · by_cases h2 : n < 2
    · exact ⟨_, _, _, _, .inr (.inl ⟨h, h2, rfl, rfl, rfl, rfl⟩)⟩
    · obtain ⟨a, b, f, g⟩ := ClosR.ex l n (by omega)
      exact ⟨_, _, _, _, .inr (.inr ⟨h, by omega, rfl, a, b, rfl, rfl, g⟩)⟩
  · exact ⟨_, _, _, _, .inl ⟨h, rfl, rfl, rfl, rfl⟩⟩
theorem sq_bd {a : Int} (h : -2097152 ≤ a ∧ a ≤ 2097152) : 0 ≤ a * a ∧ a * a ≤ 4398046511104 := by
  have h1 : (a * a).natAbs ≤ 2097152 * 2097152 := by rw [Int.natAbs_mul]; exact Nat.mul_le_mul (by omega) (by omega)
  have h2 := sq_nonneg a
  omega
end Go.Dam
namespace Go.Proofs.Ytaipnjoeejgnnaa
open Go Go.RowKit Go.Dam
set_option linter.unusedVariables false
/-- A struct result of two cells is stored, cell by cell, into its box. -/
theorem res2_cells {wr : World} {K : Nat} {T : TypeId} {a b a' b' : Value} (h : Blk wr K T #[a', b']) :
    ((wr.setCell ⟨K, 0, none⟩ a).setCell ⟨K, 1, none⟩ b).cell? ⟨K, 0, none⟩ = some a ∧ ((wr.setCell ⟨K, 0, none⟩ a).setCell ⟨K, 1, none⟩ b).cell? ⟨K, 1, none⟩ = some b := by
  have h3 := (h.set_ 0 a).set_ 1 b
  exact ⟨(h3.cell 0).trans rfl, (h3.cell 1).trans rfl⟩
theorem res2_blk {wr : World} {K : Nat} {T : TypeId} {a b a' b' : Value} (h : Blk wr K T #[a', b']) : Blk ((wr.setCell ⟨K, 0, none⟩ a).setCell ⟨K, 1, none⟩ b) K T #[a, b] := (h.set_ 0 a).set_ 1 b
theorem res2_below {w wr : World} {K : Nat} {a b : Value} (h : Below w.heap.size w wr) (hK : w.heap.size ≤ K) : Below w.heap.size w ((wr.setCell ⟨K, 0, none⟩ a).setCell ⟨K, 1, none⟩ b) :=
  (h.setCell (p := ⟨K, 0, none⟩) hK _).setCell (p := ⟨K, 1, none⟩) hK _
theorem res2_far {wr : World} {K g : Nat} {T : TypeId} {cs : Array Value} {a b : Value} (h : Blk wr g T cs) (hne : g ≠ K) : Blk ((wr.setCell ⟨K, 0, none⟩ a).setCell ⟨K, 1, none⟩ b) g T cs :=
  Blk.far (Blk.far h (p := ⟨K, 0, none⟩) hne _) (p := ⟨K, 1, none⟩) hne _
def ptV (x y z : Int) : Value := .agg #[.int .i64 x, .int .i64 y, .int .i64 z]
set_option maxHeartbeats 1000000 in
theorem refDist2_any (x0 y0 z0 x1 y1 z1 : Int) (w : World) (hx0 : -1048576 ≤ x0 ∧ x0 ≤ 1048576) (hy0 : -1048576 ≤ y0 ∧ y0 ≤ 1048576) (hx1 : -1048576 ≤ x1 ∧ x1 ≤ 1048576) (hy1 : -1048576 ≤ y1 ∧ y1 ≤ 1048576) :
    Calls Try.prog 80 #[.agg #[.int .i64 x0, .int .i64 y0, .int .i64 z0], .agg #[.int .i64 x1, .int .i64 y1, .int .i64 z1]] w fun e w' => e = .returned (.int .i64 ((x0 - x1) * (x0 - x1) + (y0 - y1) * (y0 - y1))) ∧ Below w.heap.size w w' := by
  obtain ⟨dx, hdx⟩ : ∃ d, x0 - x1 = d := ⟨_, rfl⟩
  obtain ⟨dy, hdy⟩ : ∃ d, y0 - y1 = d := ⟨_, rfl⟩
  have bx : -2097152 ≤ dx ∧ dx ≤ 2097152 := by omega
  have by_ : -2097152 ≤ dy ∧ dy ≤ 2097152 := by omega
  have sx := sq_bd bx
  have sy := sq_bd by_
  have w1 : wrap64 (x0 - x1) = dx := by unfold wrap64; omega
  have w2 : wrap64 (y0 - y1) = dy := by unfold wrap64; omega
  have w3 : wrap64 (dx * dx) = dx * dx := by generalize dx * dx = p at *; unfold wrap64; omega
  have w4 : wrap64 (dy * dy) = dy * dy := by generalize dy * dy = p at *; unfold wrap64; omega
  have w5 : wrap64 (dx * dx + dy * dy) = dx * dx + dy * dy := by generalize dx * dx = p at *; generalize dy * dy = q at *; unfold wrap64; omega
  have HR : Hid ((x0 - x1) * (x0 - x1) + (y0 - y1) * (y0 - y1) = dx * dx + dy * dy) := Lib.hid (by rw [hdx, hdy])
  rw [HR.out]
  clear hdx hdy hx0 hy0 hx1 hy1 bx by_
  go_enter Try.func80, Try.ntmps80
  go_wp2_with fail
  go_ret
  refine ⟨ret_int (by simp), ?_⟩
  exact ((Below.refl _ _).alloc (Nat.le_refl _) _).alloc (by simp) _
set_option maxRecDepth 100000 in
set_option maxHeartbeats 4000000 in
theorem refClosest_any (v : Value) (n : Nat) (l : List Int) (a b f cc : Int) (w : World) (B : Nat) (hB : B ≤ w.heap.size) (h : IsFlat 3 w B v n l) (hR : ClosAns l n a b f cc) :
    Calls Try.prog 34 #[v] w fun e w' => e = .returned (.tuple #[.agg #[.int .i64 a, .int .i64 b], .int .i64 f, .int .i64 cc]) ∧ Below w.heap.size w w' := by
  have HC := Lib.hid fun w1 (hb : Below w.heap.size w w1) => pointsFault_any v n l w1 B (Nat.le_trans hB hb.size) (h.below (hb.mono hB))
  obtain ⟨A, c, rfl, hc, hm, hn, hl, hr, hw⟩ := h
  rcases hR with ⟨h0, rfl, rfl, rfl, rfl⟩ | ⟨h0, h2, rfl, rfl, rfl, rfl⟩ | ⟨h0, h2, rfl, a0, b0, rfl, rfl, hcl⟩
  · generalize ptCode n l = cc at *
    have t0 : (cc != 0) = true := bne_iff_ne.2 h0
    clear h0 hl hr hw
    go_enter Try.func34, Try.ntmps34
    go_wp2_with (go_at_call 79; refine (HC.out _ ((Below.refl _ _).alloc (Nat.le_refl _) _)).mono ?_; rintro e w1 ⟨rfl, hb1⟩; have HB1 := Lib.hid (below_box hb1); have HK1 := Lib.hid (Blk.below (Blk.new w 60 #[.int .i64 0, .int .i64 0]) hb1 (by simp)); have hz1 := size_box hb1; obtain ⟨k0, k1⟩ := box2 hb1; have f0 := HK1.out.frozen 0; have f1 := HK1.out.frozen 1; clear hb1)
    obtain ⟨q0, q1⟩ := res2_cells (a := .int .i64 0) (b := .int .i64 0) HK1.out
    exact bodyPost_ret (v := .tuple #[.agg #[.int .i64 0, .int .i64 0], .int .i64 0, .int .i64 cc]) (by simp [results, Try.results34, go_sem, q0, q1]) rfl ⟨rfl, res2_below HB1.out (Nat.le_refl _)⟩
  · rw [h0] at HC
    have t0 : decide ((n : Int) < 2) = true := decide_eq_true (by omega)
    clear h0 hl hr hw
    go_enter Try.func34, Try.ntmps34
    go_wp2_with (go_at_call 79; refine (HC.out _ ((Below.refl _ _).alloc (Nat.le_refl _) _)).mono ?_; rintro e w1 ⟨rfl, hb1⟩; have HB1 := Lib.hid (below_box hb1); have HK1 := Lib.hid (Blk.below (Blk.new w 60 #[.int .i64 0, .int .i64 0]) hb1 (by simp)); have hz1 := size_box hb1; obtain ⟨k0, k1⟩ := box2 hb1; have f0 := HK1.out.frozen 0; have f1 := HK1.out.frozen 1; clear hb1)
    obtain ⟨q0, q1⟩ := res2_cells (a := .int .i64 0) (b := .int .i64 0) HK1.out
    exact bodyPost_ret (v := .tuple #[.agg #[.int .i64 0, .int .i64 0], .int .i64 0, .int .i64 7]) (by simp [results, Try.results34, go_sem, q0, q1]) rfl ⟨rfl, res2_below HB1.out (Nat.le_refl _)⟩
  · obtain ⟨hn150, hco⟩ := pt_coords h0
    rw [h0] at HC
    have t0 : decide ((n : Int) < 2) = false := decide_eq_false (by omega)
    obtain ⟨bk, off, rfl, hbk, hcells⟩ := flat_cells hr hl (by omega) (by omega)
    have HCs := Lib.hid hcells
    have HCo := Lib.hid hco
    have HCl := Lib.hid hcl
    have e0 := hcells 0 (by omega)
    have e1 := hcells 1 (by omega)
    have e2 := hcells 2 (by omega)
    have e3 := hcells 3 (by omega)
    have e4 := hcells 4 (by omega)
    have e5 := hcells 5 (by omega)
    have HD := Lib.hid fun W => refDist2_any (l.getD 0 0) (l.getD 1 0) (l.getD 2 0) (l.getD 3 0) (l.getD 4 0) (l.getD 5 0) W (hco 0 (by omega)) (hco 1 (by omega)) (hco 3 (by omega)) (hco 4 (by omega))
    have HDv : Hid (dist2 l 0 1 = (l.getD 0 0 - l.getD 3 0) * (l.getD 0 0 - l.getD 3 0) + (l.getD 1 0 - l.getD 4 0) * (l.getD 1 0 - l.getD 4 0)) := Lib.hid (by unfold dist2; rfl)
    generalize l.getD 0 0 = x0 at *
    generalize l.getD 1 0 = x1 at *
    generalize l.getD 2 0 = x2 at *
    generalize l.getD 3 0 = x3 at *
    generalize l.getD 4 0 = x4 at *
    generalize l.getD 5 0 = x5 at *
    generalize (x0 - x3) * (x0 - x3) + (x1 - x4) * (x1 - x4) = d0 at *
    have hI := HDv.out
    clear h0 hl hr hw hcells hco hcl
    go_enter Try.func34, Try.ntmps34
    go_wp2_with (go_at_call 79; refine (HC.out _ ((Below.refl _ _).alloc (Nat.le_refl _) _)).mono ?_; rintro e w1 ⟨rfl, hb1⟩; have HB1 := Lib.hid (below_box hb1); have HK1 := Lib.hid (Blk.below (Blk.new w 60 #[.int .i64 0, .int .i64 0]) hb1 (by simp)); have hz1 := size_box hb1; obtain ⟨k0, k1⟩ := box2 hb1; have f0 := HK1.out.frozen 0; have f1 := HK1.out.frozen 1; clear hb1)
    have HB2 : Hid (Below w.heap.size w (w1.alloc (.cells #[.int .i64 0, .int .i64 1] 60))) := Lib.hid (HB1.out.alloc HB1.out.size _)
    have HK2 : Hid (Blk (w1.alloc (.cells #[.int .i64 0, .int .i64 1] 60)) w.heap.size 60 #[.int .i64 0, .int .i64 0]) := Lib.hid (HK1.out.alloc _)
    have HP2 : Hid (Blk (w1.alloc (.cells #[.int .i64 0, .int .i64 1] 60)) w1.heap.size 60 #[.int .i64 0, .int .i64 1]) := Lib.hid (Blk.new _ _ _)
    generalize w1.alloc (.cells #[.int .i64 0, .int .i64 1] 60) = W at *
    generalize w1.heap.size = gp at *
    have HGp := Lib.hid hz1
    have q0 := fun d os => cell_regrown ((HB2.out.cell (p := ⟨bk, off + 0, none⟩) (by show bk < w.heap.size; omega)).trans e0) d os
    have q1 := fun d os => cell_regrown ((HB2.out.cell (p := ⟨bk, off + 1, none⟩) (by show bk < w.heap.size; omega)).trans e1) d os
    have q2 := fun d os => cell_regrown ((HB2.out.cell (p := ⟨bk, off + 2, none⟩) (by show bk < w.heap.size; omega)).trans e2) d os
    have q3 := fun d os => cell_regrown ((HB2.out.cell (p := ⟨bk, off + 3, none⟩) (by show bk < w.heap.size; omega)).trans e3) d os
    have q4 := fun d os => cell_regrown ((HB2.out.cell (p := ⟨bk, off + 3 + 1, none⟩) (by show bk < w.heap.size; omega)).trans e4) d os
    have q5 := fun d os => cell_regrown ((HB2.out.cell (p := ⟨bk, off + 3 + 2, none⟩) (by show bk < w.heap.size; omega)).trans e5) d os
    have n1 : (0 : Int) < (n : Int) := by omega
    have n2 : (1 : Int) < (n : Int) := by omega
    have n3 : 0 < n := by omega
    have n4 : 1 < n := by omega
    have HQ := Lib.hid fun d os => Calls.regrown_of (HD.out (Sort.grow (redrawn W d) os))
    rw [Nat.add_zero] at q0
    clear e0 e1 e2 e3 e4 e5 k0 k1 f0 f1
    refine wp_region_quiet_below (by kernel_rfl) (by kernel_rfl) ?_
    repeat (quiet_step ((go_at_call 80; exact HQ.out _ _)))
    refine wpQuiet_nil ?_
    intro _ hw'
    obtain ⟨⟨dq, osq⟩, hw''⟩ := hw'
    subst hw''
    have HWq := Lib.hid (below_regrown W dq osq)
    have HB3 := Lib.hid (HB2.out.trans (HWq.out.mono HB2.out.size))
    have HK3 := Lib.hid (Blk.below HK2.out HWq.out HK2.out.lt)
    have HP3 := Lib.hid (Blk.below HP2.out HWq.out HP2.out.lt)
    generalize Sort.grow (redrawn W dq) osq = w3 at *
    clear q0 q1 q2 q3 q4 q5 HB2 HK2 HP2 HWq HQ HK1 HB1
    rw [← HDv.out]
    clear hI HDv HD t0
    go_wp2_with fail
    go_loopw [7, 8, 9, 10, 31] (fun lv _ _ _ iv wr => ∃ (i a1 b1 : Nat) (f1 : Int), i ≤ n ∧ iv = .int .i64 i ∧ lv = .int .i64 f1 ∧ Hid (RefClos l n i (i + 1) a1 b1 f1 ∧ (a1 < i ∨ (a1 = 0 ∧ b1 = 1))) ∧ Hid (Blk wr w.heap.size 60 #[.int .i64 0, .int .i64 0]) ∧ Hid (Blk wr gp 60 #[.int .i64 a1, .int .i64 b1]) ∧ Hid (Below w.heap.size w wr)) (fun _ _ _ _ iv _ => n - (intOf iv).toNat)
    case atStart => exact ⟨0, 0, 1, _, by omega, rfl, rfl, Lib.hid ⟨RefClos.start h2, .inr ⟨rfl, rfl⟩⟩, HK3, HP3, HB3⟩
    case round =>
      obtain ⟨i, a1, b1, f1, hi, rfl, rfl, HR, HK, HP, HB⟩ := hrel
      by_cases hlt : i < n
      · have t1 : decide ((i : Int) < (n : Int)) = true := decide_eq_true (by omega)
        clear HK3 HP3 HB3
        go_wp2_with fail
        go_loopw [7, 9, 10] (fun lv jv _ w2 => ∃ (j a2 b2 : Nat) (f2 : Int), i < j ∧ j ≤ n ∧ jv = .int .i64 j ∧ lv = .int .i64 f2 ∧ Hid (RefClos l n i j a2 b2 f2 ∧ (a2 < i ∨ (a2 = i ∧ b2 < j) ∨ (a2 = 0 ∧ b2 = 1))) ∧ Hid (Blk w2 w.heap.size 60 #[.int .i64 0, .int .i64 0]) ∧ Hid (Blk w2 gp 60 #[.int .i64 a2, .int .i64 b2]) ∧ Hid (Below w.heap.size w w2)) (fun _ jv _ _ => n - (intOf jv).toNat)
        case atStart => exact ⟨i + 1, a1, b1, f1, by omega, by omega, by go_num, rfl, Lib.hid ⟨HR.out.1, by have := HR.out.2; omega⟩, HK, HP, HB⟩
        case round =>
          obtain ⟨wo, rfl⟩ : ∃ wo : World, wo = wr := ⟨_, rfl⟩
          obtain ⟨j, a2, b2, f2, hij, hj, rfl, rfl, HR2, HK2, HP2, HB2⟩ := hrel
          by_cases hlt2 : j < n
          · have t2 : decide ((j : Int) < (n : Int)) = true := decide_eq_true (by omega)
            have e0 := fun d os => cell_regrown ((HB2.out.cell (p := ⟨bk, off + i * 3, none⟩) (by show bk < w.heap.size; omega)).trans (HCs.out (i * 3) (by omega))) d os
            have e1 := fun d os => cell_regrown ((HB2.out.cell (p := ⟨bk, off + i * 3 + 1, none⟩) (by show bk < w.heap.size; omega)).trans (HCs.out (i * 3 + 1) (by omega))) d os
            have e2 := fun d os => cell_regrown ((HB2.out.cell (p := ⟨bk, off + i * 3 + 2, none⟩) (by show bk < w.heap.size; omega)).trans (HCs.out (i * 3 + 2) (by omega))) d os
            have e3 := fun d os => cell_regrown ((HB2.out.cell (p := ⟨bk, off + j * 3, none⟩) (by show bk < w.heap.size; omega)).trans (HCs.out (j * 3) (by omega))) d os
            have e4 := fun d os => cell_regrown ((HB2.out.cell (p := ⟨bk, off + j * 3 + 1, none⟩) (by show bk < w.heap.size; omega)).trans (HCs.out (j * 3 + 1) (by omega))) d os
            have e5 := fun d os => cell_regrown ((HB2.out.cell (p := ⟨bk, off + j * 3 + 2, none⟩) (by show bk < w.heap.size; omega)).trans (HCs.out (j * 3 + 2) (by omega))) d os
            have HD := Lib.hid fun W => refDist2_any (l.getD (i * 3) 0) (l.getD (i * 3 + 1) 0) (l.getD (i * 3 + 2) 0) (l.getD (j * 3) 0) (l.getD (j * 3 + 1) 0) (l.getD (j * 3 + 2) 0) W (HCo.out _ (by omega)) (HCo.out _ (by omega)) (HCo.out _ (by omega)) (HCo.out _ (by omega))
            have HDv : Hid (dist2 l i j = (l.getD (i * 3) 0 - l.getD (j * 3) 0) * (l.getD (i * 3) 0 - l.getD (j * 3) 0) + (l.getD (i * 3 + 1) 0 - l.getD (j * 3 + 1) 0) * (l.getD (i * 3 + 1) 0 - l.getD (j * 3 + 1) 0)) := Lib.hid (by unfold dist2; rfl)
            rw [← HDv.out] at HD
            generalize l.getD (i * 3) 0 = y0 at *
            generalize l.getD (i * 3 + 1) 0 = y1 at *
            generalize l.getD (i * 3 + 2) 0 = y2 at *
            generalize l.getD (j * 3) 0 = y3 at *
            generalize l.getD (j * 3 + 1) 0 = y4 at *
            generalize l.getD (j * 3 + 2) 0 = y5 at *
            have HQ := Lib.hid fun d os => Calls.regrown_of (HD.out (Sort.grow (redrawn wo d) os))
            have n5 : (i : Int) < (n : Int) := by omega
            have n6 : (j : Int) < (n : Int) := by omega
            clear HDv HD HR HK HP HB
            go_wp2_with fail
            refine wp_region_quiet_below (by kernel_rfl) (by kernel_rfl) ?_
            repeat (quiet_step ((go_at_call 80; exact HQ.out _ _)))
            refine wpQuiet_nil ?_
            intro _ hw'
            obtain ⟨⟨dq, osq⟩, hw''⟩ := hw'
            subst hw''
            have HWq := Lib.hid (below_regrown wo dq osq)
            have HB3 := Lib.hid (HB2.out.trans (HWq.out.mono HB2.out.size))
            have HK3 := Lib.hid (Blk.below HK2.out HWq.out HK2.out.lt)
            have HP3 := Lib.hid (Blk.below HP2.out HWq.out HP2.out.lt)
            generalize Sort.grow (redrawn wo dq) osq = w3 at *
            clear e0 e1 e2 e3 e4 e5 HB2 HK2 HP2 HWq HQ
            by_cases hcl2 : dist2 l i j < f2
            · have HN := Lib.hid (HR2.out.1.less hij hlt2 hcl2)
              have k0 := (HP3.out.cell 0).trans rfl
              have k1 := (HP3.out.cell 1).trans rfl
              have g0 := HP3.out.frozen 0
              have g1 := HP3.out.frozen 1
              have t3 : decide (dist2 l i j < f2) = true := decide_eq_true hcl2
              generalize dist2 l i j = dd at *
              go_wp2_with fail
              go_roundw
              case rel => exact ⟨j + 1, i, j, dd, by omega, by omega, by go_num, rfl, Lib.hid ⟨HN.out, by omega⟩, Lib.hid (res2_far HK3.out (by have := HGp.out; omega)), Lib.hid (res2_blk HP3.out), Lib.hid (res2_below HB3.out (by have := HGp.out; omega))⟩
              case measure => simp [intOf]; omega
            · have HN := Lib.hid (HR2.out.1.more hij hlt2 hcl2 (by have := HR2.out.2; omega))
              have t3 : decide (dist2 l i j < f2) = false := decide_eq_false hcl2
              generalize dist2 l i j = dd at *
              go_wp2_with fail
              go_roundw
              case rel => exact ⟨j + 1, a2, b2, f2, by omega, by omega, by go_num, rfl, Lib.hid ⟨HN.out, by have := HR2.out.2; omega⟩, HK3, HP3, HB3⟩
              case measure => simp [intOf]; omega
          · obtain rfl : j = n := by omega
            have i7 : ¬ (j : Int) < (j : Int) := by omega
            have HN := Lib.hid (HR2.out.1.row)
            go_wp2_with fail
            go_roundw
            case rel => exact ⟨i + 1, a2, b2, f2, by omega, by go_num, rfl, Lib.hid ⟨HN.out, by have := HR2.out.2; omega⟩, HK2, HP2, HB2⟩
            case measure => simp [intOf]; omega
      · obtain rfl : i = n := by omega
        have i6 : ¬ (i : Int) < (i : Int) := by omega
        have hd := HR.out.1.done (Nat.le_refl _)
        obtain ⟨rfl, rfl, rfl⟩ := hd.uniq HCl.out
        have c0 := (HP.out.cell 0).trans rfl
        have c1 := (HP.out.cell 1).trans rfl
        have k0 := (HK.out.cell 0).trans rfl
        have k1 := (HK.out.cell 1).trans rfl
        have f0 := HK.out.frozen 0
        have f1' := HK.out.frozen 1
        clear hd
        go_wp2_with fail
        obtain ⟨q0, q1⟩ := res2_cells (a := .int .i64 (a1 : Int)) (b := .int .i64 (b1 : Int)) HK.out
        exact bodyPost_ret (v := .tuple #[.agg #[.int .i64 (a1 : Int), .int .i64 (b1 : Int)], .int .i64 f1, .int .i64 0]) (by simp [results, Try.results34, go_sem, q0, q1]) rfl ⟨rfl, res2_below HB.out (Nat.le_refl _)⟩
end Go.Proofs.Ytaipnjoeejgnnaa
