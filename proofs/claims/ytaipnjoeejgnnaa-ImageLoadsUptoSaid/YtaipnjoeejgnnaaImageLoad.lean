/-
  Contract of image.Load: the points of an image, or the code of what is refused. Conditions: the bytes can be read as data.
-/
import Derived.Test.YtaipnjoeejgnnaaImagePoints
import Derived.Test.YtaipnjoeejgnnaaImageSave
namespace Go.Dam
open Go Go.RowKit
set_option linter.unusedVariables false
/-- Points and a code are returned. -/
def GivesPoints (n : Nat) (l : List Int) (c : Int) (w : World) (e : Ending) (w' : World) : Prop := ∃ v, e = .returned (.tuple #[v, .int .i64 c]) ∧ IsFlat 3 w' w'.heap.size v n l ∧ Below w.heap.size w w'
/-- The sum of the last bytes, so far. -/
def partS (b : List Int) (k : Nat) : Nat → Int
  | 0 => 0
  | i + 1 => partS b k i * 256 + b.getD (k + i) 0
theorem partS_0 (b : List Int) (k : Nat) : partS b k 0 = 0 := rfl
theorem partS_succ (b : List Int) (k i : Nat) : partS b k (i + 1) = partS b k i * 256 + b.getD (k + i) 0 := rfl
theorem partS_4 (b : List Int) (k : Nat) : partS b k 4 = sum4 b k := by unfold sum4; simp [partS]
theorem partS_bound {b : List Int} (hb : ∀ i, 0 ≤ b.getD i 0 ∧ b.getD i 0 ≤ 255) (k : Nat) : ∀ i, 0 ≤ partS b k i ∧ partS b k i ≤ 256 ^ i - 1
  | 0 => by simp [partS_0]
  | i + 1 => by
    have h := partS_bound hb k i
    have h2 := hb (k + i)
    have e : (256 : Int) ^ (i + 1) = 256 ^ i * 256 := Int.pow_succ ..
    rw [partS_succ, e]; omega
attribute [irreducible] partS
theorem or_byte {s x : Int} (h0 : 0 ≤ s) (h1 : s ≤ 16777215) (x0 : 0 ≤ x) (x1 : x ≤ 255) : bits .or .i64 (s * 256) x = s * 256 + x := by
  obtain ⟨a, rfl⟩ := Int.eq_ofNat_of_zero_le h0
  obtain ⟨y, rfl⟩ := Int.eq_ofNat_of_zero_le x0
  have e : (a : Int) * 256 = ((a * 256 : Nat) : Int) := by omega
  rw [e, i64_or_nat _ _ (by omega) (by omega), Nat.or_comm, or_disj (k := 8) (Q := 256) rfl (by omega)]
  omega
theorem Loads.pts {b : List Int} {n n1 : Nat} {l l1 : List Int} (h : Loads b n l) (g : PtsR (b.take (b.length - 4)) n1 l1) : n1 = n ∧ l1 = l := by
  obtain ⟨g1, g2, g3, _⟩ := g
  obtain ⟨rfl, e2, _⟩ := h.at_ (n := n1) (o := l1) (i := n1 * 3) (rest := []) (by rw [g3, List.append_nil]) (Nat.le_refl _)
  refine ⟨rfl, List.ext_getElem (by rw [g2, h.2.1]) fun i h1 h3 => ?_⟩
  have := e2 i (by rw [← g2]; exact h1)
  rw [List.getD_eq_getElem?_getD, List.getD_eq_getElem?_getD, List.getElem?_eq_getElem h1, List.getElem?_eq_getElem h3] at this
  simpa using this
end Go.Dam
namespace Go.Dam
open Go Go.RowKit
theorem pt_ok {n : Nat} {l : List Int} (hn : n ≤ 150) (h : CoordsOk n l) : ptCode n l = 0 := by
  refine ptCode_0 (by omega) (anyN_no fun i hi => ?_)
  have h0 := h (i * 3) (by omega)
  have h1 := h (i * 3 + 1) (by omega)
  have h2 := h (i * 3 + 2) (by omega)
  rw [← badPt_eq]
  have c0 : coordOk (l.getD (i * 3) 0) = true := by unfold coordOk; exact decide_eq_true h0
  have c1 : coordOk (l.getD (i * 3 + 1) 0) = true := by unfold coordOk; exact decide_eq_true h1
  have c2 : coordOk (l.getD (i * 3 + 2) 0) = true := by unfold coordOk; exact decide_eq_true h2
  rw [c0, c1, c2]; rfl
theorem sumL_le (l : List Int) : sumL l ≤ 4294967295 := by have := sumL_lt l; omega
end Go.Dam
namespace Go.Proofs.Ytaipnjoeejgnnaa
open Go Go.RowKit Go.Dam
set_option linter.unusedVariables false
set_option maxRecDepth 100000 in
set_option maxHeartbeats 2000000 in
theorem loadImg_any (v : Value) (b : List Int) (n : Nat) (l : List Int) (cc : Int) (w : World) (B : Nat) (hB : B ≤ w.heap.size) (h : IsInts .u8 w B v b) (hR : LoadR b n l cc) :
    Calls Try.prog 15 #[v] w (GivesPoints n l cc w) := by
  have HI0 := Lib.hid h
  obtain ⟨A, c, rfl, hc, hm, hn, hr, hw⟩ := h
  have hbr := byte_at hw
  have HBr := Lib.hid hbr
  have HBy : Hid (∀ z ∈ b, 0 ≤ z ∧ z ≤ 255) := Lib.hid fun z hz => wf_u8 (hw z hz)
  clear hw hbr
  by_cases h9 : b.length < 9
  · obtain ⟨rfl, rfl, rfl⟩ : n = 0 ∧ l = [] ∧ cc = 5 := by rcases hR with ⟨_, h⟩ | ⟨h, _⟩ | ⟨h, _⟩ <;> first | exact h | omega
    clear hR hr
    go_enter Try.func15, Try.ntmps15
    go_wp2_with fail
    go_ret2
    exact ⟨_, rfl, isFlat_nil _ _ _, Below.refl _ _⟩
  obtain ⟨bk, off, rfl, hbk, hcells⟩ := ints_cells hr (by omega)
  obtain ⟨k, hk1, hk2⟩ : ∃ k, b.length ≤ k + 4 ∧ k + 4 ≤ b.length := ⟨b.length - 4, by omega, by omega⟩
  have ek : (b.length : Int) - 4 = (k : Int) := by omega
  have hkk : b.length - 4 = k := by omega
  rw [LoadR, hkk] at hR
  have HKK := Lib.hid hkk
  have HT := Lib.hid (HI0.out.take_ (show k ≤ b.length by omega))
  have HTl : Hid ((b.take k).length = k) := Lib.hid (by rw [List.length_take]; omega)
  have hcells4 : ∀ i, i < 4 → w.cell? ⟨bk, off + k + i, none⟩ = some (.int .u8 (b.getD (k + i) 0)) := fun i hi => by rw [Nat.add_assoc]; exact hcells (k + i) (by omega)
  have HC4 := Lib.hid hcells4
  have HSum := Lib.hid fun W (hb : Below w.heap.size w W) => imageSum_s _ _ W B (HT.out.below (hb.mono hB))
  have HS4 : Hid (partS b k 4 = sum4 b k) := Lib.hid (partS_4 b k)
  have hsl := sumL_le (b.take k)
  have HPts := Lib.hid fun W (hb : Below w.heap.size w W) => imgPoints_any _ _ W B (Nat.le_trans hB hb.size) (HT.out.below (hb.mono hB)) (by rw [HTl.out]; omega)
  generalize hss : sumL (b.take k) = ss at *
  have HSS := Lib.hid hss
  have hne : c ≠ k := by omega
  clear hss hcells hcells4 hr hkk
  go_enter Try.func15, Try.ntmps15
  go_wp2_with fail
  rw [show b.length - k = 4 from by omega]
  go_loop [5, 7, 23] (fun sv _ iv => ∃ i : Nat, i ≤ 4 ∧ iv = .int .i64 i ∧ sv = .int .i64 (partS b k i)) (fun _ _ iv => 4 - (intOf iv).toNat)
  case atStart => exact ⟨0, by omega, rfl, by rw [partS_0]⟩
  case round =>
    obtain ⟨i, hi, rfl, rfl⟩ := hrel
    by_cases hlt : i < 4
    · have k0 := HC4.out i hlt
      obtain ⟨x0, x1⟩ := HBr.out (k + i)
      obtain ⟨s0, s1⟩ := partS_bound HBr.out k i
      have s2 : partS b k i ≤ 16777215 := by
        rcases (show i = 0 ∨ i = 1 ∨ i = 2 ∨ i = 3 by omega) with rfl | rfl | rfl | rfl <;> simp at s1 <;> omega
      have HN := Lib.hid (partS_succ b k i)
      generalize partS b k i = s at *
      generalize b.getD (k + i) 0 = x at *
      have e1 := or_byte s0 s2 x0 x1
      clear s1
      go_wp2_with fail
      go_round
      case rel => exact ⟨i + 1, by omega, by go_num, by rw [HN.out]⟩
      case measure => simp [intOf]; omega
    · obtain rfl : i = 4 := by omega
      rw [HS4.out]
      by_cases hs : sum4 b k = (ss : Int)
      rotate_left
      · obtain ⟨rfl, rfl, rfl⟩ : n = 0 ∧ l = [] ∧ cc = 6 := by rcases hR with ⟨h, _⟩ | ⟨_, _, h⟩ | ⟨_, h, _⟩ <;> first | exact h | omega | exact absurd h hs
        have t0 : ((ss : Int) != sum4 b k) = true := by simpa using fun e => hs e.symm
        clear hR hs
        generalize sum4 b k = s4 at *
        go_wp2_with (go_at_call 43; refine (HSum.out _ (Below.refl _ _)).mono ?_; rintro e w1 ⟨rfl, rfl⟩)
        go_ret2
        exact ⟨_, rfl, isFlat_nil _ _ _, Below.refl _ _⟩
      have hR2 : (Loads b n l ∧ cc = 0) ∨ ((∀ n' l', ¬ Loads b n' l') ∧ n = 0 ∧ l = [] ∧ cc = 4) := by rcases hR with ⟨h, _⟩ | ⟨_, h, _⟩ | ⟨_, _, h⟩ <;> first | exact h | omega | exact absurd hs h
      have hsum : sum4 b (b.length - 4) = sumL (b.take (b.length - 4)) := by rw [HKK.out, HSS.out]; exact hs
      have HSE := Lib.hid hsum
      have t0 : ((ss : Int) != sum4 b k) = false := by rw [hs]; simp
      have HPt : Hid (∀ n1 l1, PtsR (b.take k) n1 l1 → ptCode n1 l1 = 0 → Loads b n1 l1) := Lib.hid fun n1 l1 h1 h2 => loads_of HBy.out (by omega) h1.1 h1.2.1 (pt_coords h2).2 (by rw [HKK.out]; exact h1.2.2.1) HSE.out
      clear hR hs hsum
      generalize sum4 b k = s4 at *
      rcases hR2 with ⟨hL, rfl⟩ | ⟨hL, rfl, rfl, rfl⟩
      · have HL := Lib.hid hL
        have HP0 := Lib.hid (pt_ok hL.1 hL.2.2.1)
        have HP1 : Hid (Calls Try.prog 44 #[.slice (some ⟨bk, off, none⟩) k c] w fun e w' => ∃ (A2 : Option Addr) (c2 : Nat), e = .returned (.tuple #[.slice A2 n c2, .bool true]) ∧ Below w.heap.size w w' ∧ Hid (IsFlat 3 w' w'.heap.size (.slice A2 n c2) n l)) := Lib.hid (by
          refine (HPts.out _ (Below.refl _ _)).mono ?_
          rintro e w2 (⟨n1, l1, v2, hp, rfl, hf, hb2⟩ | ⟨hno, A2, n2, c2, rfl, hb2⟩)
          · obtain ⟨rfl, rfl⟩ := HL.out.pts (by rw [HKK.out]; exact hp)
            have hf' := hf
            obtain ⟨A2, c2, rfl, _⟩ := hf'
            exact ⟨A2, c2, rfl, hb2, Lib.hid hf⟩
          · exact absurd HL.out (hno b _ _ (by rw [HKK.out])))
        clear hL
        go_wp2_with (first
          | (go_at_call 43; refine (HSum.out _ (Below.refl _ _)).mono ?_; rintro e w1 ⟨rfl, rfl⟩)
          | (go_at_call 44; refine (HP1.out).mono ?_; rintro e w2 ⟨A2, c2, rfl, hb2, HF⟩; have HB2 := Lib.hid hb2; clear hb2)
          | (go_at_call 45; refine (gridCheck_any _ _ _ _ _ (Nat.le_refl _) HF.out).mono ?_; rintro e w3 ⟨rfl, hb3⟩; rw [HP0.out]; have HB3 := Lib.hid hb3; clear hb3))
        go_ret2
        exact ⟨_, rfl, (HF.out.below HB3.out).more HB3.out.size, HB2.out.trans (HB3.out.mono HB2.out.size)⟩
      · have HL := Lib.hid hL
        have HP2 : Hid (Calls Try.prog 44 #[.slice (some ⟨bk, off, none⟩) k c] w fun e w' => ∃ (ok : Bool) (A2 : Option Addr) (n1 c2 : Nat) (l1 : List Int), e = .returned (.tuple #[.slice A2 n1 c2, .bool ok]) ∧ Below w.heap.size w w' ∧ Hid (ok = true → IsFlat 3 w' w'.heap.size (.slice A2 n1 c2) n1 l1 ∧ ptCode n1 l1 ≠ 0)) := Lib.hid (by
          refine (HPts.out _ (Below.refl _ _)).mono ?_
          rintro e w2 (⟨n1, l1, v2, hp, rfl, hf, hb2⟩ | ⟨hno, A2, n2, c2, rfl, hb2⟩)
          · have hf' := hf
            obtain ⟨A2, c2, rfl, _⟩ := hf'
            exact ⟨true, A2, n1, c2, l1, rfl, hb2, Lib.hid fun _ => ⟨hf, fun h => HL.out n1 l1 (HPt.out n1 l1 hp h)⟩⟩
          · exact ⟨false, A2, n2, c2, [], rfl, hb2, Lib.hid fun h => by cases h⟩)
        clear hL
        go_wp2_with (first
          | (go_at_call 43; refine (HSum.out _ (Below.refl _ _)).mono ?_; rintro e w1 ⟨rfl, rfl⟩)
          | (go_at_call 44; refine (HP2.out).mono ?_; rintro e w2 ⟨ok, A2, n1, c2, l1, rfl, hb2, himp⟩; have HB2 := Lib.hid hb2; clear hb2)
          | (go_at_call 45; refine (gridCheck_any _ _ _ _ _ (Nat.le_refl _) (himp.out (by assumption)).1).mono ?_; rintro e w3 ⟨rfl, hb3⟩; have HB3 := Lib.hid hb3; have tpc : (ptCode n1 l1 != 0) = true := bne_iff_ne.2 (himp.out (by assumption)).2; clear hb3))
        all_goals
          go_ret2
          first
            | exact ⟨_, rfl, isFlat_nil _ _ _, HB2.out.trans (HB3.out.mono HB2.out.size)⟩
            | exact ⟨_, rfl, isFlat_nil _ _ _, HB2.out⟩
end Go.Proofs.Ytaipnjoeejgnnaa
