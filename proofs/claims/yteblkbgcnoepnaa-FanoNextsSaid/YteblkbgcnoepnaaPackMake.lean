/-
  Contract of pack.Make: the words of a list of numbers, or why there are none. Conditions: the list can be read as data.
-/
import Derived.Test.YteblkbgcnoepnaaPackPut
import Derived.Test.YteblkbgcnoepnaaPackMakePlain
import Derived.Test.YteblkbgcnoepnaaPackMay
namespace Go.Proofs.Yteblkbgcnoepnaa
open Go Go.RowKit Go.Dam
set_option linter.unusedVariables false

/-- It returns n numbers of m bits in these words, and a code. -/
def GivesPacked (n m : Int) (ws : List Nat) (c : Int) (w : World) (e : Ending) (w' : World) : Prop :=
  ∃ s, e = .returned (.tuple #[.agg #[.int .i64 n, .int .i64 m, s], .int .i64 c]) ∧ IsWords w' w'.heap.size s ws ∧ Below w.heap.size w w'
set_option maxHeartbeats 400000 in
theorem packMake_long (v : Value) (m : Int) (l : List Int) (w : World) (B : Nat) (h : IsInts .i64 w B v l) (hl : 300 < l.length) :
    Calls Try.prog 58 #[.int .i64 m, v] w (GivesPacked 0 0 [] 1 w) := by
  obtain ⟨A, c, rfl, hc, hcm, hb, hr, hw⟩ := h
  go_enter Try.func58, Try.ntmps58
  go_wp2_with fail
  exact bodyPost_ret (v := .tuple #[.agg #[.int .i64 0, .int .i64 0, .slice none 0 0], .int .i64 1]) (by simp [results, Try.results58, go_sem]) rfl ⟨_, rfl, isWords_nil _ _, (Below.refl _ _).alloc (Nat.le_refl _) _⟩
set_option maxHeartbeats 400000 in
theorem packMake_width (v : Value) (m : Int) (l : List Int) (w : World) (B : Nat) (h : IsInts .i64 w B v l) (hl : l.length ≤ 300) (hm : I64 m) (hm' : m < 0 ∨ 62 < m) :
    Calls Try.prog 58 #[.int .i64 m, v] w (GivesPacked 0 0 [] 2 w) := by
  obtain ⟨A, c, rfl, hc, hcm, hb, hr, hw⟩ := h
  unfold I64 at hm
  rcases hm' with h | h
  · go_enter Try.func58, Try.ntmps58
    go_wp2_with fail
    exact bodyPost_ret (v := .tuple #[.agg #[.int .i64 0, .int .i64 0, .slice none 0 0], .int .i64 2]) (by simp [results, Try.results58, go_sem]) rfl ⟨_, rfl, isWords_nil _ _, (Below.refl _ _).alloc (Nat.le_refl _) _⟩
  · have h' : ¬ m < 0 := by omega
    go_enter Try.func58, Try.ntmps58
    go_wp2_with fail
    exact bodyPost_ret (v := .tuple #[.agg #[.int .i64 0, .int .i64 0, .slice none 0 0], .int .i64 2]) (by simp [results, Try.results58, go_sem]) rfl ⟨_, rfl, isWords_nil _ _, (Below.refl _ _).alloc (Nat.le_refl _) _⟩
/-- What it answers once list and width are not too great: all numbers fit, or one does not. -/
def PackR (m : Nat) (l : List Int) (n' m' : Int) (ws : List Nat) (c : Int) : Prop :=
  ((∀ x ∈ l, 0 ≤ x ∧ x < 2 ^ m) ∧ n' = l.length ∧ m' = m ∧ ws = packW (flat m (l.map Int.toNat)) ((l.length * m + 63) / 64) (l.length * m) ∧ c = 0) ∨
  ((∃ x ∈ l, ¬ (0 ≤ x ∧ x < 2 ^ m)) ∧ n' = 0 ∧ m' = 0 ∧ ws = [] ∧ c = 2)
theorem PackR.ex (m : Nat) (l : List Int) : ∃ n' m' ws c, PackR m l n' m' ws c := by
  by_cases h : ∀ x ∈ l, 0 ≤ x ∧ x < 2 ^ m
  · exact ⟨_, _, _, _, .inl ⟨h, rfl, rfl, rfl, rfl⟩⟩
  · refine ⟨_, _, _, _, .inr ⟨?_, rfl, rfl, rfl, rfl⟩⟩
    simpa using h
/-- What stands while the words are made: behind i numbers, all of which fit. -/
structure PMaking (W0 : World) (m W : Nat) (l : List Int) (i : Nat) (w : World) : Prop where
  fit : ∀ j, j < i → 0 ≤ l.getD j 0 ∧ l.getD j 0 < 2 ^ m
  words : WBlk w (W0.heap.size + 1) (packW (flat m (l.map Int.toNat)) W (i * m))
  box : Blk w (W0.heap.size + 1 + 1) 43 #[.int .i64 l.length, .int .i64 m, .slice (some ⟨W0.heap.size + 1, 0, none⟩) W W]
  res : Blk w W0.heap.size 43 #[.int .i64 0, .int .i64 0, .slice none 0 0]
  below : Below W0.heap.size W0 w
set_option maxHeartbeats 1000000 in
theorem packMake_any (v : Value) (m : Nat) (l : List Int) (n' m' : Int) (ws : List Nat) (cc : Int) (w : World) (B : Nat) (hB : B ≤ w.heap.size) (h : IsInts .i64 w B v l) (hl : l.length ≤ 300) (hm : m ≤ 62) (hR : PackR m l n' m' ws cc) :
    Calls Try.prog 58 #[.int .i64 m, v] w (GivesPacked n' m' ws cc w) := by
  obtain ⟨A, c, rfl, hc, hcm, hb, hr, hw⟩ := h
  have hp : l.length * m ≤ 300 * 62 := Nat.mul_le_mul hl hm
  have ecast : (l.length : Int) * (m : Int) = ((l.length * m : Nat) : Int) := by simp
  obtain ⟨W, hW⟩ : ∃ W, W = (l.length * m + 63) / 64 := ⟨_, rfl⟩
  have hmk := fun w' => run_make1 el_u64 rfl (((l.length : Int) * (m : Int) + 63) / 64) W (by rw [ecast]; omega) (by omega) (by omega) w'
  have HWd := Lib.hid (fun W' => words_any (l.length : Int) (m : Int) W' (by rw [ecast]; omega) (by rw [ecast]; omega))
  have HR := Lib.hid hR
  have HE := Lib.hid ecast
  have HW := Lib.hid hW
  have hd1 : decide (300 < (l.length : Int)) = false := by simp; omega
  have hd2 : decide ((m : Int) < 0) = false := by simp
  have hd3 : decide (62 < (m : Int)) = false := by simp; omega
  have hW64 : l.length * m ≤ 64 * W := by omega
  have hWle : W ≤ 400 := by omega
  clear hR ecast hW
  go_enter Try.func58, Try.ntmps58
  go_wp2_with (go_at_call 76; refine (HWd.out _).mono ?_; rintro e w1 ⟨rfl, rfl⟩)
  go_loopw [31] (fun iv wr => ∃ i : Nat, i ≤ l.length ∧ iv = .int .i64 i ∧ PMaking w m W l i wr) (fun iv _ => l.length - (intOf iv).toNat)
  case atStart =>
    refine ⟨0, by omega, rfl, fun j hj => absurd hj (by omega), ?_, Blk.new_at _ _ _ _ (by simp), ((Blk.new w _ _).alloc _).alloc _, (((Below.refl _ _).alloc (Nat.le_refl _) _).alloc (by simp) _).alloc (by simp; omega) _⟩
    rw [Nat.zero_mul, packW_0]
    unfold WBlk
    rw [List.map_replicate]
    have := (Blk.new_at (w.alloc (.cells #[.int .i64 0, .int .i64 0, .slice none 0 0] 43)) 63 (List.replicate W (Value.int .u64 0)).toArray (w.heap.size + 1) (by simp)).alloc (.cells #[.int .i64 l.length, .int .i64 m, .slice (some ⟨w.heap.size + 1, 0, none⟩) W W] 43)
    simpa [wordV] using this
  case round =>
    obtain ⟨i, hi, rfl, hM⟩ := hrel
    have hz := hM.box.lt
    by_cases hlt : i < l.length
    · obtain ⟨b, off, rfl, hbB, hcells⟩ := ints_cells hr (by omega)
      have k2 := (hM.below.cell (p := ⟨b, off + i, none⟩) (by simp; omega)).trans (hcells i hlt)
      have hx64 := wf_i64 (hw (l.getD i 0) (by rw [List.getD_eq_getElem?_getD, List.getElem?_eq_getElem hlt]; exact List.getElem_mem _))
      have hxm : l.getD i 0 ∈ l := by rw [List.getD_eq_getElem?_getD, List.getElem?_eq_getElem hlt]; exact List.getElem_mem _
      clear hcells
      by_cases hfit : 0 ≤ l.getD i 0 ∧ l.getD i 0 < 2 ^ m
      · obtain ⟨n, hn⟩ : ∃ n : Nat, l.getD i 0 = n := ⟨(l.getD i 0).toNat, by omega⟩
        have hn2 : n < 2 ^ m := by
          have := hfit.2
          rw [hn] at this
          have e : ((2 : Int) ^ m) = ((2 ^ m : Nat) : Int) := by simp
          rw [e] at this; omega
        have hng : (l.map Int.toNat).getD i 0 = n := by
          have : l[i]? = some (n : Int) := by
            rw [List.getElem?_eq_getElem hlt, ← hn, List.getD_eq_getElem?_getD, List.getElem?_eq_getElem hlt]; rfl
          simp [this]
        rw [hn] at k2
        have hdiv : ¬ (0 < (n : Int) / 2 ^ m) := by
          have e : (n : Int) / 2 ^ m = ((n / 2 ^ m : Nat) : Int) := by simp
          rw [e, Nat.div_eq_of_lt hn2]; omega
        have ple : (i + 1) * m ≤ l.length * m := Nat.mul_le_mul_right _ hlt
        have ps : (i + 1) * m = i * m + m := Nat.succ_mul _ _
        have hcast : (i : Int) * (m : Int) = ((i * m : Nat) : Int) := by simp
        have hplen := packW_length (flat m (l.map Int.toNat)) W (i * m)
        have HPut := Lib.hid (fun W' hW' => put_any (w.heap.size + 1) (i * m) n m W W (packW (flat m (l.map Int.toNat)) W (i * m)) W' hW' (packW_lt _ _ _ (by omega)) hn2 hm (by rw [hplen]; omega) (by omega) hplen.symm (Nat.le_refl _))
        have HNX := Lib.hid (fun vs hv => puts_next (m := m) (W := W) (i := i) (l := l.map Int.toNat) (vs := vs) (by simpa using hlt) (by rw [hng]; exact hn2) (by simpa using hW64) (by rw [hng]; exact hv))
        have k3 : wr.cell? ⟨w.heap.size + 1 + 1, 2, none⟩ = some (.slice (some ⟨w.heap.size + 1, 0, none⟩) W W) := by rw [hM.box.cell]; rfl
        have HM := Lib.hid hM
        have HF : Hid (0 ≤ l.getD i 0 ∧ l.getD i 0 < 2 ^ m) := Lib.hid hfit
        have him : (i : Int) * (m : Int) ≤ 18600 := by rw [hcast]; omega
        have him0 : 0 ≤ (i : Int) * (m : Int) := by rw [hcast]; omega
        have HC := Lib.hid hcast
        clear hM hfit hn hng hxm hx64 hcast hplen ple ps
        go_wp2_with (go_at_call 77; rw [HC.out]; refine (HPut.out _ HM.out.words).mono ?_; rintro e w1 ⟨rfl, vs, hv, hWv, honly⟩)
        go_roundw
        case rel =>
          refine ⟨i + 1, by omega, by go_num, fun j hj => ?_, ?_, honly.blk HM.out.box (by omega), honly.blk HM.out.res (by omega), honly.below HM.out.below (by omega) HM.out.below.size⟩
          · rcases Nat.lt_or_ge j i with h | h
            · exact HM.out.fit j h
            · rw [show j = i from by omega]; exact HF.out
          · rw [← HNX.out vs hv]; exact hWv
        case measure => simp [intOf]; omega
      · have hR2 : PackR m l n' m' ws cc := HR.out
        have hbad : n' = 0 ∧ m' = 0 ∧ ws = [] ∧ cc = 2 := by
          rcases hR2 with ⟨h, _⟩ | ⟨_, h⟩
          · exact absurd (h _ hxm) hfit
          · exact h
        obtain ⟨rfl, rfl, rfl, rfl⟩ := hbad
        obtain ⟨x, hx⟩ : ∃ x, x = l.getD i 0 := ⟨_, rfl⟩
        rw [← hx] at k2 hfit hx64
        have k5 : wr.cell? ⟨w.heap.size, 0, none⟩ = some (.int .i64 0) := by rw [hM.res.cell]; rfl
        have k6 : wr.cell? ⟨w.heap.size, 1, none⟩ = some (.int .i64 0) := by rw [hM.res.cell]; rfl
        have k7 : wr.cell? ⟨w.heap.size, 2, none⟩ = some (.slice none 0 0) := by rw [hM.res.cell]; rfl
        have f0 := hM.res.frozen 0
        have f1 := hM.res.frozen 1
        have f2 := hM.res.frozen 2
        have RC := Lib.hid (res3_cells (a := .int .i64 0) (b := .int .i64 0) (c := .slice none 0 0) hM.res)
        have HM := Lib.hid hM
        clear hM hx hR2 hxm
        by_cases hx0 : x < 0
        · clear hfit
          go_wp2
          refine bodyPost_ret (v := .tuple #[.agg #[.int .i64 0, .int .i64 0, .slice none 0 0], .int .i64 2]) ?_ rfl ?_
          · obtain ⟨c0, c1, c2⟩ := RC.out
            simp [results, Try.results58, go_sem, c0, c1, c2]
          · exact ⟨_, rfl, isWords_nil _ _, res3_below HM.out.below (Nat.le_refl _)⟩
        · have hdiv : 0 < x / 2 ^ m := by
            obtain ⟨n, rfl⟩ := Int.eq_ofNat_of_zero_le (show 0 ≤ x by omega)
            have h1 : (2 : Int) ^ m ≤ n := by omega
            have e : ((2 : Int) ^ m) = ((2 ^ m : Nat) : Int) := by simp
            have e2 : (n : Int) / 2 ^ m = ((n / 2 ^ m : Nat) : Int) := by simp
            rw [e] at h1
            rw [e2]
            have := Nat.div_pos (show 2 ^ m ≤ n by omega) (Nat.two_pow_pos m)
            omega
          clear hfit
          go_wp2
          refine bodyPost_ret (v := .tuple #[.agg #[.int .i64 0, .int .i64 0, .slice none 0 0], .int .i64 2]) ?_ rfl ?_
          · obtain ⟨c0, c1, c2⟩ := RC.out
            simp [results, Try.results58, go_sem, c0, c1, c2]
          · exact ⟨_, rfl, isWords_nil _ _, res3_below HM.out.below (Nat.le_refl _)⟩
    · obtain rfl : i = l.length := by omega
      have hbad : n' = l.length ∧ m' = m ∧ ws = packW (flat m (l.map Int.toNat)) W (l.length * m) ∧ cc = 0 := by
        rcases HR.out with ⟨_, h⟩ | ⟨⟨x, hx, h⟩, _⟩
        · rw [HW.out]; exact h
        · obtain ⟨j, hj, rfl⟩ := List.getElem_of_mem hx
          have := hM.fit j hj
          rw [List.getD_eq_getElem?_getD, List.getElem?_eq_getElem hj] at this
          exact absurd this h
      obtain ⟨rfl, rfl, rfl, rfl⟩ := hbad
      have k0 : wr.cell? ⟨w.heap.size + 1 + 1, 0, none⟩ = some (.int .i64 l.length) := by rw [hM.box.cell]; rfl
      have k1 : wr.cell? ⟨w.heap.size + 1 + 1, 1, none⟩ = some (.int .i64 m) := by rw [hM.box.cell]; rfl
      have k2 : wr.cell? ⟨w.heap.size + 1 + 1, 2, none⟩ = some (.slice (some ⟨w.heap.size + 1, 0, none⟩) W W) := by rw [hM.box.cell]; rfl
      have k5 : wr.cell? ⟨w.heap.size, 0, none⟩ = some (.int .i64 0) := by rw [hM.res.cell]; rfl
      have k6 : wr.cell? ⟨w.heap.size, 1, none⟩ = some (.int .i64 0) := by rw [hM.res.cell]; rfl
      have k7 : wr.cell? ⟨w.heap.size, 2, none⟩ = some (.slice none 0 0) := by rw [hM.res.cell]; rfl
      have f0 := hM.res.frozen 0
      have f1 := hM.res.frozen 1
      have f2 := hM.res.frozen 2
      have RC := Lib.hid (res3_cells (a := .int .i64 l.length) (b := .int .i64 m) (c := .slice (some ⟨w.heap.size + 1, 0, none⟩) W W) hM.res)
      have HL := Lib.hid (packW_length (flat m (l.map Int.toNat)) W (l.length * m))
      have HT := Lib.hid (packW_lt (flat m (l.map Int.toNat)) W (l.length * m) hW64)
      have HM := Lib.hid hM
      clear hM
      go_wp2
      refine bodyPost_ret (v := .tuple #[.agg #[.int .i64 l.length, .int .i64 m, .slice (some ⟨w.heap.size + 1, 0, none⟩) W W], .int .i64 0]) ?_ rfl ?_
      · obtain ⟨c0, c1, c2⟩ := RC.out
        simp [results, Try.results58, go_sem, c0, c1, c2]
      · refine ⟨_, rfl, ?_, res3_below HM.out.below (Nat.le_refl _)⟩
        have h1 : WBlk _ (w.heap.size + 1) (packW (flat m (l.map Int.toNat)) W (l.length * m)) := res3_far (K := w.heap.size) (a := .int .i64 l.length) (b := .int .i64 m) (c := .slice (some ⟨w.heap.size + 1, 0, none⟩) W W) HM.out.words (by omega)
        have h2 := h1.isWords (by rw [HL.out]; omega) HT.out
        rwa [HL.out] at h2
end Go.Proofs.Yteblkbgcnoepnaa
