/-
  The walk of the law WaveMakes: wave.Make and the reference answer alike. Conditions: the arguments can be read as data.
-/
import Derived.Test.YtjnndbllaplkcaaRefWaveMake
import Derived.Test.YtjnndbllaplkcaaSameRow
import Derived.Lib.QuietBelow
namespace Go.Proofs.Ytjnndbllaplkcaa
open Go Go.RowKit Go.Dam
set_option linter.unusedVariables false
theorem rowsB_shape {w : World} {B : Nat} {v : Value} {n : Int} {wss : List (List Nat)} (h : IsRowsB w B v (wss.map fun ws => (n, ws))) : ∃ A c, v = .slice A wss.length c := by
  obtain ⟨A, c, vs, rfl, _⟩ := h
  exact ⟨A, c, by rw [List.length_map]⟩
theorem rows_cells {w : World} {B c : Nat} {A : Option Addr} {n : Int} {wss : List (List Nat)} (h : IsRowsB w B (.slice A wss.length c) (wss.map fun ws => (n, ws))) (h0 : 0 < wss.length) :
    ∃ b off, A = some ⟨b, off, none⟩ ∧ b < B ∧ ∀ i, i < wss.length → ∃ sv, w.cell? ⟨b, off + i * 2, none⟩ = some (.int .i64 n) ∧ w.cell? ⟨b, off + i * 2 + 1, none⟩ = some sv ∧ IsWords w B sv (wss.getD i []) := by
  have hl : (wss.map fun ws => (n, ws)).length = wss.length := List.length_map _
  rw [← hl] at h
  obtain ⟨_, b, off, h1, h2, h3⟩ := rows_at h (by rw [hl]; exact h0)
  refine ⟨b, off, h1, h2, fun i hi => ?_⟩
  obtain ⟨sv, e1, e2, _, e4⟩ := h3 i (by rw [hl]; exact hi)
  have e : (wss.map fun ws => (n, ws)).getD i (0, []) = (n, wss.getD i []) := by
    rw [List.getD_eq_getElem?_getD, List.getElem?_map, List.getElem?_eq_getElem hi, List.getD_eq_getElem?_getD, List.getElem?_eq_getElem hi]; rfl
  rw [e] at e1 e4
  exact ⟨sv, e1, e2, e4⟩
set_option maxRecDepth 100000 in
set_option maxHeartbeats 1000000 in
theorem waveMakes_walk (v u : Value) (w : World) (h : ∃ x : Int, v = .int .i64 x ∧ I64 x) (h' : ∃ l, IsInts .i64 w w.heap.size u l) :
    Calls Try.prog 3 #[v, u] w fun e w' => e = .returned (.bool true) ∧ Below w.heap.size w w' := by
  obtain ⟨lv, rfl, hlv⟩ := h
  obtain ⟨l, hl⟩ := h'
  obtain ⟨wss, cc, hR⟩ := WaveMk.ex lv l
  have H1 := Lib.hid (waveMake_any lv u l wss cc w _ (Nat.le_refl _) hl hlv hR)
  have H2 := Lib.hid fun w1 (hb : Below w.heap.size w w1) => refWaveMake_any lv u l wss cc w1 w.heap.size hb.size (hl.below hb) hlv hR
  have hwl : Hid (wss.length ≤ 21) := Lib.hid (by
    rcases hR with ⟨_, rfl, _⟩ | ⟨_, _, rfl, _⟩ | ⟨_, _, _, _, rfl, _⟩ | ⟨_, h1, h2, _, rfl, _⟩
    · simp
    · simp
    · simp
    · rw [levsK_len]; omega)
  have h21 := hwl.out
  obtain ⟨A, c, rfl, hc, hm, hn, hr, hw⟩ := hl
  clear hr hw hR hlv
  generalize (l.length : Int) = n at *
  go_enter Try.func3, Try.ntmps3
  go_wp2_with (first
    | (go_at_call 15; refine (H1.out).mono ?_; rintro e w1 ⟨u1, rfl, hi1, hb1⟩; have HI1 := Lib.hid hi1; have HB1 := Lib.hid hb1; obtain ⟨A1, c1, rfl⟩ := rowsB_shape hi1; have hz1 := hb1.size; clear hi1 hb1)
    | (go_at_call 16; refine (H2.out _ (HB1.out.alloc hz1 _)).mono ?_; rintro e w2 ⟨u2, rfl, hi2, hb2⟩; have HI2 := Lib.hid hi2; have HB2 := Lib.hid hb2; obtain ⟨A2, c2, rfl⟩ := rowsB_shape hi2; have hz2 := hb2.size; simp at hz2; have k1 : ∀ o, (w2.alloc o).cell? ⟨w1.heap.size, 0, none⟩ = some (.slice A1 wss.length c1) := fun o => (World.cell?_alloc_lt w2 o ⟨w1.heap.size, 0, none⟩ (by show w1.heap.size < w2.heap.size; omega)).trans ((hb2.cell (p := ⟨w1.heap.size, 0, none⟩) (by simp)).trans (by simp)); clear hi2 hb2))
  have K1 := Lib.hid (k1 (.cells #[.slice A2 wss.length c2] 25))
  have K2 : Hid ((w2.alloc (.cells #[.slice A2 wss.length c2] 25)).cell? ⟨w2.heap.size, 0, none⟩ = some (.slice A2 wss.length c2)) := Lib.hid (by simp)
  have HJ1 := Lib.hid (((HI1.out.below ((Below.refl _ _).alloc (Nat.le_refl _) _)).below (HB2.out.mono (by simp))).below ((Below.refl w1.heap.size w2).alloc (by omega) (.cells #[.slice A2 wss.length c2] 25)))
  have HJ2 := Lib.hid (HI2.out.below ((Below.refl _ _).alloc (Nat.le_refl _) (.cells #[.slice A2 wss.length c2] 25)))
  have HBW : Hid (Below w.heap.size w (w2.alloc (.cells #[.slice A2 wss.length c2] 25))) := Lib.hid (((HB1.out.alloc hz1 _).trans (HB2.out.mono (by simp; omega))).alloc (by omega) _)
  have hz3 : w2.heap.size + 1 ≤ (w2.alloc (.cells #[.slice A2 wss.length c2] 25)).heap.size := by simp
  clear k1 HI1 HI2 HB1 HB2
  generalize w2.alloc (.cells #[.slice A2 wss.length c2] 25) = W3 at *
  go_loopw [9] (fun iv wr => ∃ i : Nat, i ≤ wss.length ∧ iv = .int .i64 i ∧ Below W3.heap.size W3 wr) (fun iv _ => wss.length - (intOf iv).toNat)
  case atStart => exact ⟨0, by omega, rfl, Below.refl _ _⟩
  case round =>
    obtain ⟨i, hi, rfl, hbel⟩ := hrel
    have y1 := (hbel.cell (p := ⟨w1.heap.size, 0, none⟩) (by show w1.heap.size < W3.heap.size; omega)).trans K1.out
    have y2 := (hbel.cell (p := ⟨w2.heap.size, 0, none⟩) (by show w2.heap.size < W3.heap.size; omega)).trans K2.out
    have HBe := Lib.hid hbel
    have hz4 := hbel.size
    by_cases hlt : i < wss.length
    · obtain ⟨b, off, rfl, hb, hrow⟩ := rows_cells (HJ1.out.below (hbel.mono (by omega))) (by omega)
      obtain ⟨b', off', rfl, hb', hrow'⟩ := rows_cells (HJ2.out.below (hbel.mono (by omega))) (by omega)
      obtain ⟨s1, c01, c02, hs1⟩ := hrow i hlt
      obtain ⟨s2, c03, c04, hs2⟩ := hrow' i hlt
      clear hrow hrow'
      generalize wss.getD i [] = ws at *
      have hs1' := hs1
      have hs2' := hs2
      obtain ⟨B1, d1, rfl, _⟩ := hs1'
      obtain ⟨B2, d2, rfl, _⟩ := hs2'
      have HSame := Lib.hid fun d os => Calls.regrown_of (sameRow_any _ _ n ws (Sort.grow (redrawn wr d) os) w2.heap.size (by have := (below_regrown wr d os).size; omega) ((hs1.more (by omega)).below ((below_regrown wr d os).mono (by omega))) (hs2.below ((below_regrown wr d os).mono (by omega))))
      have q1 := fun d os => cell_regrown y1 d os
      have q2 := fun d os => cell_regrown y2 d os
      have q3 := fun d os => cell_regrown c01 d os
      have q4 := fun d os => cell_regrown c02 d os
      have q5 := fun d os => cell_regrown c03 d os
      have q6 := fun d os => cell_regrown c04 d os
      clear hbel hs1 hs2
      go_wp2_with fail
      refine wp_region_quiet_below (by kernel_rfl) (by kernel_rfl) ?_
      repeat (quiet_step ((go_at_call 17; exact HSame.out _ _)))
      refine wpQuiet_nil ?_
      intro _ hw'
      obtain ⟨⟨dq, osq⟩, hw''⟩ := hw'
      subst hw''
      have HW := Lib.hid (below_regrown wr dq osq)
      generalize Sort.grow (redrawn wr dq) osq = w5 at *
      clear q1 q2 q3 q4 q5 q6
      go_wp2_with fail
      go_roundw
      case rel => exact ⟨i + 1, by omega, by go_num, HBe.out.trans (HW.out.mono hz4)⟩
      case measure => simp [intOf]; omega
    · obtain rfl : i = wss.length := by omega
      clear hbel
      go_wp2_with fail
      go_ret
      exact ⟨rfl, HBW.out.trans (HBe.out.mono (by omega))⟩
end Go.Proofs.Ytjnndbllaplkcaa
