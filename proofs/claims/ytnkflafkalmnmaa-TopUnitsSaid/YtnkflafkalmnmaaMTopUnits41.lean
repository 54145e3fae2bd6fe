/-
  Contracts of damaskkeep's Points and RectOf and of damasktop's points. Conditions: the arguments can be read as data; the bound is above 0.
-/
import Derived.Test.YtnkflafkalmnmaaMTopUnits40
import Derived.Test.YtnkflafkalmnmaaMTopUnits15
import Derived.Test.YtnkflafkalmnmaaMTopUnits00
import Derived.Lib.QuietBelow
import Derived.Deep.RegionHeld3
namespace Go.Dam
open Go Go.RowKit
set_option linter.unusedVariables false
/-- The points, picked. -/
def pickP (l : List Int) (b : Int) : Nat → List Int
  | 0 => []
  | n + 1 => pickP l b n ++ [l.getD (n * 3) 0 % b, l.getD (n * 3 + 1) 0 % b, l.getD (n * 3 + 2) 0 % 20]
theorem pickP_0 (l : List Int) (b : Int) : pickP l b 0 = [] := rfl
theorem pickP_succ (l : List Int) (b : Int) (n : Nat) : pickP l b (n + 1) = pickP l b n ++ [l.getD (n * 3) 0 % b, l.getD (n * 3 + 1) 0 % b, l.getD (n * 3 + 2) 0 % 20] := rfl
theorem pickP_len (l : List Int) (b : Int) : ∀ n, (pickP l b n).length = n * 3
  | 0 => rfl
  | n + 1 => by rw [pickP_succ, List.length_append, pickP_len l b n]; simp; omega
theorem pickP_wf {l : List Int} {b : Int} (hb : 0 < b ∧ b ≤ 1000000) : ∀ n, ∀ z ∈ pickP l b n, 0 ≤ z ∧ z < 1000000
  | 0, z, hz => by cases hz
  | n + 1, z, hz => by
    rw [pickP_succ] at hz
    rcases List.mem_append.1 hz with hz | hz
    · exact pickP_wf hb n z hz
    · have h1 := Int.emod_nonneg (l.getD (n * 3) 0) (show b ≠ 0 by omega)
      have h2 := Int.emod_lt_of_pos (l.getD (n * 3) 0) hb.1
      have h3 := Int.emod_nonneg (l.getD (n * 3 + 1) 0) (show b ≠ 0 by omega)
      have h4 := Int.emod_lt_of_pos (l.getD (n * 3 + 1) 0) hb.1
      simp only [List.mem_cons, List.not_mem_nil, or_false] at hz
      rcases hz with rfl | rfl | rfl <;> omega
theorem getD_appl {a b : List Int} {i : Nat} (h : i < a.length) : (a ++ b).getD i 0 = a.getD i 0 := by
  rw [List.getD_eq_getElem?_getD, List.getD_eq_getElem?_getD, List.getElem?_append_left h]
theorem getD_appr {a b : List Int} {i : Nat} (k : Nat) (h : i = a.length + k) : (a ++ b).getD i 0 = b.getD k 0 := by
  subst h
  rw [List.getD_eq_getElem?_getD, List.getD_eq_getElem?_getD, List.getElem?_append_right (Nat.le_add_right _ _), Nat.add_sub_cancel_left]
theorem pickP_at {l : List Int} {b : Int} (hb : 0 < b) : ∀ n i, i < n → (0 ≤ (pickP l b n).getD (i * 3) 0 ∧ (pickP l b n).getD (i * 3) 0 < b) ∧ (0 ≤ (pickP l b n).getD (i * 3 + 1) 0 ∧ (pickP l b n).getD (i * 3 + 1) 0 < b)
  | 0, i, h => absurd h (by omega)
  | n + 1, i, h => by
    have hl := pickP_len l b n
    rw [pickP_succ]
    by_cases h1 : i = n
    · subst h1
      rw [getD_appr 0 (by omega), getD_appr 1 (by omega)]
      exact ⟨⟨Int.emod_nonneg _ (by omega), Int.emod_lt_of_pos _ hb⟩, ⟨Int.emod_nonneg _ (by omega), Int.emod_lt_of_pos _ hb⟩⟩
    · rw [getD_appl (by omega), getD_appl (by omega)]
      exact pickP_at hb n i (by omega)
attribute [irreducible] pickP
theorem tri_news {w : World} {g : Nat} {a b c : Value} {t : TypeId} (hg : g = w.heap.size) : ∀ j u, [a, b, c][j]? = some u → (w.alloc (.cells #[a, b, c] t)).drew.cell? ((⟨g, 0, none⟩ : Addr).add j) = some u := by
  subst hg
  intro j u hj
  rw [add_zero_addr]
  show (w.alloc (.cells #[a, b, c] t)).cell? _ = _
  match j with
  | 0 => simp at hj; subst hj; simp
  | 1 => simp at hj; subst hj; simp
  | 2 => simp at hj; subst hj; simp
  | j + 3 => simp at hj
theorem tri_ones {a b c : Int} : ∀ u ∈ [Value.int .i64 a, Value.int .i64 b, Value.int .i64 c], u.oneCell' = true := by
  intro u hu
  simp at hu
  rcases hu with rfl | rfl | rfl <;> rfl
end Go.Dam
namespace Go.Proofs.Ytnkflafkalmnmaa
open Go Go.RowKit Go.Dam
set_option linter.unusedVariables false
theorem el_pnt : El Try.prog 23 26 (.agg #[.int .i64 0, .int .i64 0, .int .i64 0]) 3 24 := ⟨Try.underlying23, by kernel_rfl, rfl, by decide⟩
set_option maxRecDepth 100000 in
set_option maxHeartbeats 60000000 in
theorem keepPoints_any (v : Value) (l : List Int) (len m b : Nat) (w : World) (B : Nat) (hB : B ≤ w.heap.size) (h : IsFlat 3 w B v len l) (hm : m ≤ 1000) (hb : 0 < b ∧ b ≤ 1000000) :
    Calls Try.prog 4 #[v, .int .i64 m, .int .i64 b] w fun e w' => (∃ u n, e = .returned u ∧ n = min len m ∧ w'.ownsRow w.heap.size 26 3 u n ((pickP l b n).map (Value.int .i64))) ∧ Below w.heap.size w w' := by
  obtain ⟨A, c, rfl, hc, hmx, hn0, hl3, hr, hw⟩ := h
  obtain ⟨n, hn⟩ : ∃ n, min len m = n := ⟨_, rfl⟩
  have HR := Lib.hid hr
  have HW := Lib.hid hw
  have HLen := Lib.hid hl3
  have hn2 : n ≤ len ∧ n ≤ m ∧ (n = len ∨ n = m) := by omega
  have HN := Lib.hid hn
  have HP := Lib.hid fun x W (hx : I64 x) => picked_any x (b : Int) W hx (by omega)
  have HP20 := Lib.hid fun x W (hx : I64 x) => picked_any x 20 W hx (by omega)
  clear hr hw hl3 hn
  go_enter Try.func4, Try.ntmps4
  go_wp2_with fail
  go_loopw [7, 8] (fun ov iv wr => ∃ i : Nat, i ≤ n ∧ iv = .int .i64 i ∧ Hid (wr.ownsRow w.heap.size 26 3 ov i ((pickP l b i).map (Value.int .i64))) ∧ Hid (Below w.heap.size w wr)) (fun _ iv _ => n - (intOf iv).toNat)
  case atStart => exact ⟨0, by omega, rfl, Lib.hid (by rw [pickP_0]; exact World.ownsRow_nil _ _ _ _), Lib.hid (Below.refl _ _)⟩
  case round =>
    obtain ⟨i, hi, rfl, HO, HB⟩ := hrel
    obtain ⟨wo, rfl⟩ : ∃ wo : World, wo = wr := ⟨_, rfl⟩
    obtain ⟨A3, c3, rfl⟩ := own_shape HO.out
    have hz := HB.out.size
    have i2 : i < len ∨ i = len := by omega
    rcases i2 with i2 | rfl
    · have t1 : decide ((i : Int) < (len : Int)) = true := decide_eq_true (by omega)
      by_cases i3 : i < m
      · have t2 : decide ((i : Int) < (m : Int)) = true := decide_eq_true (by omega)
        obtain ⟨bk, off, rfl, hbk, hcells⟩ := flat_cells HR.out HLen.out (by omega) (by omega)
        have n0 := (HB.out.cell (p := ⟨bk, off + i * 3, none⟩) (by show bk < _; omega)).trans (hcells (i * 3) (by omega))
        have n1 := (HB.out.cell (p := ⟨bk, off + (i * 3 + 1), none⟩) (by show bk < _; omega)).trans (hcells (i * 3 + 1) (by omega))
        have n2 := (HB.out.cell (p := ⟨bk, off + (i * 3 + 2), none⟩) (by show bk < _; omega)).trans (hcells (i * 3 + 2) (by omega))
        rw [← Nat.add_assoc] at n1 n2
        have HX : ∀ j, j < len * 3 → I64 (l.getD j 0) := fun j hj => wf_int (HW.out _ (by rw [List.getD_eq_getElem?_getD, List.getElem?_eq_getElem (by rw [HLen.out]; exact hj)]; exact List.getElem_mem _))
        have HX0 := HX (i * 3) (by omega)
        have HX1 := HX (i * 3 + 1) (by omega)
        have HX2 := HX (i * 3 + 2) (by omega)
        have HS := Lib.hid (pickP_succ l (b : Int) i)
        have HP0 := Lib.hid fun W => HP.out _ W HX0
        have HP1 := Lib.hid fun W => HP.out _ W HX1
        have HP2 := Lib.hid fun W => HP20.out _ W HX2
        have NE : Hid ((Value.slice A3 i c3).ownBlock ≠ some bk) := Lib.hid (own_ne HO.out (by omega))
        generalize l.getD (i * 3) 0 = a0 at *
        generalize l.getD (i * 3 + 1) 0 = a1 at *
        generalize l.getD (i * 3 + 2) 0 = a2 at *
        clear hcells HX HX0 HX1 HX2
        go_wp2_with fail
        go_region_held3 (fun w' => w'.cell? ⟨bk, off + i * 3, none⟩ = some (.int .i64 a0) ∧ w'.cell? ⟨bk, off + i * 3 + 1, none⟩ = some (.int .i64 a1) ∧ w'.cell? ⟨bk, off + i * 3 + 2, none⟩ = some (.int .i64 a2))
          (first
            | go_keep
            | exact ⟨(hg3.cell_far _ (by simp; omega) (Ne.symm NE.out)).trans ((World.cell?_alloc_lt wo _ ⟨bk, off + i * 3, none⟩ (by show bk < wo.heap.size; omega)).trans n0), (hg3.cell_far _ (by simp; omega) (Ne.symm NE.out)).trans ((World.cell?_alloc_lt wo _ ⟨bk, off + i * 3 + 1, none⟩ (by show bk < wo.heap.size; omega)).trans n1), (hg3.cell_far _ (by simp; omega) (Ne.symm NE.out)).trans ((World.cell?_alloc_lt wo _ ⟨bk, off + i * 3 + 2, none⟩ (by show bk < wo.heap.size; omega)).trans n2)⟩)
          (first
            | (go_at_call 9; with_reducible refine (HP2.out _).mono ?_; rintro e wh ⟨rfl, rfl⟩)
            | (go_at_call 9; with_reducible refine (HP0.out _).mono ?_; rintro e wh ⟨rfl, rfl⟩)
            | (go_at_call 9; with_reducible refine (HP1.out _).mono ?_; rintro e wh ⟨rfl, rfl⟩)
            | (refine step_pushM el_pnt rfl (.tmp 20) (.tmp 42) rfl w.heap.size (.slice A3 i c3) i _ ((HO.out.alloc _).drew) (by rfl) ⟨wo.heap.size, 0, none⟩ 1 1 [.int .i64 (a0 % (b : Int)), .int .i64 (a1 % (b : Int)), .int .i64 (a2 % 20)] (by rfl) rfl (tri_news (by simp)) tri_ones (by omega) (by omega) (by simp; omega) ?_; intro v3 w3 hown3 hg3 hl3))
        all_goals go_wp2_with fail
        all_goals go_roundw
        case rel => exact ⟨i + 1, by omega, by go_num, Lib.hid (by rw [HS.out, List.map_append]; exact hown3), Lib.hid (below_push (HB.out.alloc hz _).drew (HO.out.alloc _).drew (Nat.le_refl _) (by simp; omega) hg3)⟩
        case measure => simp [intOf]; omega
      · have t2 : decide ((i : Int) < (m : Int)) = false := decide_eq_false (by omega)
        obtain rfl : i = n := by omega
        go_wp2_with fail
        go_ret
        exact ⟨⟨_, _, rfl, HN.out.symm, HO.out⟩, HB.out⟩
    · have t1 : decide ((i : Int) < (i : Int)) = false := decide_eq_false (by omega)
      obtain rfl : i = n := by omega
      go_wp2_with fail
      go_ret
      refine ⟨?_, HB.out⟩
      exact ⟨_, rfl, HO.out⟩
end Go.Proofs.Ytnkflafkalmnmaa
