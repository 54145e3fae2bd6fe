/-
  Contracts of damaskkeep's Picked and Numbers. Conditions: the arguments can be read as data; the bound is above 0.
-/
import Derived.Test.YtdmfhpigchbcbaaMTopMax03
import Derived.Test.YtdmfhpigchbcbaaMTopMax00
import Derived.Test.YtdmfhpigchbcbaaMTopMax06
namespace Go.Dam
open Go Go.RowKit
set_option linter.unusedVariables false
theorem tmod_neg {a n : Int} (ha : a < 0) (hn : 0 < n) : (a.tmod n = 0 ∧ a % n = 0) ∨ (a.tmod n < 0 ∧ -n < a.tmod n ∧ a % n = a.tmod n + n) := by
  have h1 := Int.tmod_add_mul_tdiv a n
  have h2 := Int.emod_add_mul_ediv a n
  have h3 := Int.emod_nonneg a (show n ≠ 0 by omega)
  have h4 := Int.emod_lt_of_pos a hn
  have h5 : a.tmod n ≤ 0 := by
    have := Int.tmod_nonneg (a := -a) n (by omega)
    rw [Int.neg_tmod] at this
    omega
  have h6 : -n < a.tmod n := by
    have := Int.tmod_lt_of_pos (-a) hn
    rw [Int.neg_tmod] at this
    omega
  by_cases h0 : a.tmod n = 0
  · refine .inl ⟨h0, ?_⟩
    rw [h0, Int.zero_add] at h1
    rw [← h1]
    exact Int.mul_emod_right n _
  · refine .inr ⟨by omega, h6, ?_⟩
    have e : a = (a.tmod n + n) + n * (a.tdiv n - 1) := by rw [Int.mul_sub]; omega
    conv => lhs; rw [e]
    rw [Int.add_mul_emod_self_left]
    exact Int.emod_eq_of_lt (by omega) (by omega)
end Go.Dam
namespace Go.Proofs.Ytdmfhpigchbcbaa
open Go Go.RowKit Go.Dam
set_option linter.unusedVariables false
set_option maxHeartbeats 1000000 in
theorem picked_any (a n : Int) (w : World) (ha : I64 a) (hn : 0 < n ∧ n ≤ 1099511627776) : Calls Try.prog 6 #[.int .i64 a, .int .i64 n] w fun e w' => e = .returned (.int .i64 (a % n)) ∧ w = w' := by
  unfold I64 at ha
  have hn0 : ¬ n = 0 := by omega
  have hn1 : (n == 0) = false := beq_eq_false_iff_ne.2 hn0
  by_cases h0 : 0 ≤ a
  · have h1 := Int.emod_nonneg a (show n ≠ 0 by omega)
    have h2 := Int.emod_lt_of_pos a hn.1
    have t1 : decide (a % n < 0) = false := decide_eq_false (by omega)
    have e1 : a.tmod n = a % n := Int.tmod_eq_emod_of_nonneg h0
    go_enter Try.func6, Try.ntmps6
    go_wp2_with fail
    go_ret
    exact ⟨ret_int (by first | rfl | omega), rfl⟩
  · have hE := Lib.hid (tmod_neg (a := a) (n := n) (by omega) hn.1)
    obtain ⟨q, hq⟩ : ∃ q, a.tmod n = q := ⟨_, rfl⟩
    rw [hq] at hE
    rcases hE.out with ⟨h1, h2⟩ | ⟨h1, h2, h3⟩
    · subst h1
      have t1 : decide ((0 : Int) < 0) = false := by decide
      have HQ := Lib.hid h2
      clear h2
      go_enter Try.func6, Try.ntmps6
      go_wp2_with fail
      go_ret
      exact ⟨ret_int (by rw [HQ.out]), rfl⟩
    · have t1 : decide (q < 0) = true := decide_eq_true h1
      have HQ := Lib.hid h3
      clear h3
      have hw1 : IntKind.i64.wrap q = q := IntWalk.i64_in _ (by omega)
      go_enter Try.func6, Try.ntmps6
      go_wp2_with fail
      go_ret
      exact ⟨ret_int (by rw [HQ.out]), rfl⟩
theorem wf_int {z : Int} (h : (Lit.int .i64 z).wf = true) : I64 z := by
  unfold I64
  have := wf_i64 h
  omega
/-- The numbers, picked. -/
def pickL (l : List Int) (m : Nat) (b : Int) : List Int := (l.take m).map fun x => x % b
theorem pickL_succ {l : List Int} {i : Nat} (h : i < l.length) (b : Int) : pickL l (i + 1) b = pickL l i b ++ [l.getD i 0 % b] := by
  unfold pickL
  rw [List.take_succ_eq_append_getElem h, List.map_append, List.getD_eq_getElem?_getD, List.getElem?_eq_getElem h]; rfl
theorem pickL_len {l : List Int} {i : Nat} (h : i ≤ l.length) (b : Int) : (pickL l i b).length = i := by unfold pickL; rw [List.length_map, List.length_take]; omega
set_option maxHeartbeats 2000000 in
theorem numbers_any (v : Value) (l : List Int) (m b : Nat) (w : World) (B : Nat) (hB : B ≤ w.heap.size) (h : IsInts .i64 w B v l) (hm : m ≤ 1000) (hb : 0 < b ∧ b ≤ 1000000) :
    Calls Try.prog 5 #[v, .int .i64 m, .int .i64 b] w fun e w' => (∃ u n, e = .returned u ∧ n = min l.length m ∧ w'.ownsRow w.heap.size 3 1 u n ((pickL l n b).map (Value.int .i64))) ∧ Below w.heap.size w w' := by
  obtain ⟨A, c, rfl, hc, hmx, hn0, hr, hw⟩ := h
  obtain ⟨n, hn⟩ : ∃ n, min l.length m = n := ⟨_, rfl⟩
  obtain ⟨len, hlen⟩ : ∃ k, l.length = k := ⟨_, rfl⟩
  have HR := Lib.hid hr
  have HW := Lib.hid hw
  have HLen := Lib.hid hlen
  rw [hlen] at hn ⊢
  have hn2 : n ≤ len ∧ n ≤ m ∧ (n = len ∨ n = m) := by omega
  have HN := Lib.hid hn
  have HP := Lib.hid fun x W (hx : I64 x) => picked_any x (b : Int) W hx (by omega)
  rw [hlen] at hc hn0
  clear hr hw hlen hn
  go_enter Try.func5, Try.ntmps5
  go_wp2_with fail
  go_loopw [7, 8] (fun ov iv wr => ∃ i : Nat, i ≤ n ∧ iv = .int .i64 i ∧ Hid (wr.ownsRow w.heap.size 3 1 ov i ((pickL l i b).map (Value.int .i64))) ∧ Hid (Below w.heap.size w wr)) (fun _ iv _ => n - (intOf iv).toNat)
  case atStart => exact ⟨0, by omega, rfl, Lib.hid (World.ownsRow_nil _ _ _ _), Lib.hid (Below.refl _ _)⟩
  case round =>
    obtain ⟨i, hi, rfl, HO, HB⟩ := hrel
    obtain ⟨wo, rfl⟩ : ∃ wo : World, wo = wr := ⟨_, rfl⟩
    obtain ⟨A3, c3, rfl⟩ := own_shape HO.out
    have hz := HB.out.size
    have i2 : i < len ∨ i = len := by omega
    rcases i2 with i2 | rfl
    · have t1 : decide ((i : Int) < (len : Int)) = true := decide_eq_true (by omega)
      by_cases i3 : i < m
      · have t2 : decide ((i : Int) < (m : Int)) = true := decide_eq_true (by omega)
        obtain ⟨bk, off, rfl, hbk, hcells⟩ := ints_cells (HR.out) (by rw [HLen.out]; omega)
        have k0 := (HB.out.cell (p := ⟨bk, off + i, none⟩) (by show bk < _; omega)).trans (hcells i (by rw [HLen.out]; omega))
        have HX : Hid (I64 (l.getD i 0)) := Lib.hid (wf_int (HW.out _ (by rw [List.getD_eq_getElem?_getD, List.getElem?_eq_getElem (by rw [HLen.out]; exact i2)]; exact List.getElem_mem _)))
        have HS : Hid (pickL l (i + 1) b = pickL l i b ++ [l.getD i 0 % (b : Int)]) := Lib.hid (pickL_succ (by rw [HLen.out]; exact i2) _)
        have HPx := Lib.hid fun W => HP.out _ W HX.out
        generalize l.getD i 0 = x at *
        clear hcells
        go_wp2_with (first
          | (go_at_call 6; refine (HPx.out _).mono ?_; rintro e w1 ⟨rfl, rfl⟩)
          | (at_builtin; refine wpList_pushD el_int rfl _ _ rfl w.heap.size _ i _ (HO.out.alloc _) rfl wo.heap.size 1 _ rfl (by simp; rfl) rfl (by omega) (by omega) (by simp; omega) ?_; intro v' w2 hown2 hg2 hl2))
        go_roundw
        case rel => exact ⟨i + 1, by omega, by go_num, Lib.hid (by rw [HS.out, List.map_append]; exact hown2), Lib.hid (below_push (HB.out.alloc hz _) (HO.out.alloc _) (Nat.le_refl _) (by simp; omega) hg2)⟩
        case measure => simp [intOf]; omega
      · have t2 : decide ((i : Int) < (m : Int)) = false := decide_eq_false (by omega)
        obtain rfl : i = n := by omega
        go_wp2_with fail
        go_ret
        exact ⟨⟨_, _, rfl, HN.out.symm, HO.out⟩, HB.out⟩
    · have t1 : decide ((i : Int) < (i : Int)) = false := decide_eq_false (by omega)
      obtain rfl : i = n := by omega
      go_wp2_with fail
      go_ret
      refine ⟨?_, HB.out⟩
      exact ⟨_, rfl, HO.out⟩
end Go.Proofs.Ytdmfhpigchbcbaa
