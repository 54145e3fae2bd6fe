/-
  Contracts of morton.Cover and of the reference's MortonCover. Conditions: none.
-/
import Derived.Test.YtaipnjoeejgnnaaMMortonCovers15
import Derived.Test.YtaipnjoeejgnnaaMMortonCovers16
import Derived.Test.YtaipnjoeejgnnaaMMortonCovers17
import Derived.Test.YtaipnjoeejgnnaaMMortonCovers20
namespace Go.Dam
open Go Go.RowKit
set_option linter.unusedVariables false
/-- What is refused of a rectangle. -/
def BadCover (x0 y0 x1 y1 : Int) : Prop := x0 < 0 ∨ y0 < 0 ∨ x1 < x0 ∨ y1 < y0 ∨ 255 < x1 ∨ 255 < y1
/-- What Cover answers. -/
def CoverR (x0 y0 x1 y1 : Int) (r : List Int) (cc : Int) : Prop := (BadCover x0 y0 x1 y1 ∧ r = [] ∧ cc = 2) ∨ (¬ BadCover x0 y0 x1 y1 ∧ r = flatR (runsK (inC x0 y0 x1 y1) 65536) ∧ cc = 0)
theorem CoverR.ex (x0 y0 x1 y1 : Int) : ∃ r cc, CoverR x0 y0 x1 y1 r cc := by
  by_cases h : BadCover x0 y0 x1 y1
  · exact ⟨_, _, .inl ⟨h, rfl, rfl⟩⟩
  · exact ⟨_, _, .inr ⟨h, rfl, rfl⟩⟩
theorem CoverR.bad {x0 y0 x1 y1 : Int} {r : List Int} {cc : Int} (h : CoverR x0 y0 x1 y1 r cc) (hb : BadCover x0 y0 x1 y1) : r = [] ∧ cc = 2 := by
  rcases h with ⟨_, h1, h2⟩ | ⟨h1, _⟩
  · exact ⟨h1, h2⟩
  · exact absurd hb h1
theorem CoverR.ok {x0 y0 x1 y1 : Int} {r : List Int} {cc : Int} (h : CoverR x0 y0 x1 y1 r cc) (hb : ¬ BadCover x0 y0 x1 y1) : r = flatR (runsK (inC x0 y0 x1 y1) 65536) ∧ cc = 0 := by
  rcases h with ⟨h1, _⟩ | ⟨_, h1, h2⟩
  · exact absurd h1 hb
  · exact ⟨h1, h2⟩
/-- Spans and a code are returned. -/
def GivesSpans (r : List Int) (c : Int) (w : World) (e : Ending) (w' : World) : Prop := ∃ v k, e = .returned (.tuple #[v, .int .i64 c]) ∧ k ≤ 65536 ∧ IsFlat 2 w' w'.heap.size v k r ∧ Below w.heap.size w w'
theorem runs_wf (x0 y0 x1 y1 : Int) : ∀ z ∈ flatR (runsK (inC x0 y0 x1 y1) 65536), (Lit.int .i64 z).wf = true := fun z hz => by
  have := flatR_wf (runsK_mem (inC x0 y0 x1 y1) 65536) z hz
  exact WalkArith.wf_i64 (by omega)
end Go.Dam
namespace Go.Proofs.Ytaipnjoeejgnnaa
open Go Go.RowKit Go.Dam
set_option linter.unusedVariables false
set_option maxHeartbeats 4000000 in
theorem mortonCover_any (x0 y0 x1 y1 : Int) (r : List Int) (cc : Int) (w : World) (hR : CoverR x0 y0 x1 y1 r cc) :
    Calls Try.prog 35 #[.agg #[.int .i64 x0, .int .i64 y0, .int .i64 x1, .int .i64 y1]] w (GivesSpans r cc w) := by
  have HB0 := Lib.hid ((Below.refl w.heap.size w).alloc (Nat.le_refl _) (.cells #[.int .i64 x0, .int .i64 y0, .int .i64 x1, .int .i64 y1] 65))
  have HBad := Lib.hid fun h => hR.bad h
  have HOk := Lib.hid fun h => hR.ok h
  clear hR
  by_cases n0 : x0 < 0
  · have t0 : decide (x0 < 0) = true := decide_eq_true n0
    obtain ⟨rfl, rfl⟩ := HBad.out (.inl n0)
    clear HBad HOk
    go_enter Try.func35, Try.ntmps35
    go_wp2_with fail
    go_ret2
    exact ⟨_, 0, rfl, by omega, isFlat_nil _ _ _, HB0.out⟩
  have t0 : decide (x0 < 0) = false := decide_eq_false n0
  by_cases n1 : y0 < 0
  · have t1 : decide (y0 < 0) = true := decide_eq_true n1
    obtain ⟨rfl, rfl⟩ := HBad.out (.inr (.inl n1))
    clear HBad HOk
    go_enter Try.func35, Try.ntmps35
    go_wp2_with fail
    go_ret2
    exact ⟨_, 0, rfl, by omega, isFlat_nil _ _ _, HB0.out⟩
  have t1 : decide (y0 < 0) = false := decide_eq_false n1
  by_cases n2 : x1 < x0
  · have t2 : decide (x1 < x0) = true := decide_eq_true n2
    obtain ⟨rfl, rfl⟩ := HBad.out (.inr (.inr (.inl n2)))
    clear HBad HOk
    go_enter Try.func35, Try.ntmps35
    go_wp2_with fail
    go_ret2
    exact ⟨_, 0, rfl, by omega, isFlat_nil _ _ _, HB0.out⟩
  have t2 : decide (x1 < x0) = false := decide_eq_false n2
  by_cases n3 : y1 < y0
  · have t3 : decide (y1 < y0) = true := decide_eq_true n3
    obtain ⟨rfl, rfl⟩ := HBad.out (.inr (.inr (.inr (.inl n3))))
    clear HBad HOk
    go_enter Try.func35, Try.ntmps35
    go_wp2_with fail
    go_ret2
    exact ⟨_, 0, rfl, by omega, isFlat_nil _ _ _, HB0.out⟩
  have t3 : decide (y1 < y0) = false := decide_eq_false n3
  by_cases n4 : 256 ≤ x1
  · have t4 : decide (256 ≤ x1) = true := decide_eq_true n4
    obtain ⟨rfl, rfl⟩ := HBad.out (.inr (.inr (.inr (.inr (.inl (by omega))))))
    clear HBad HOk
    go_enter Try.func35, Try.ntmps35
    go_wp2_with fail
    go_ret2
    exact ⟨_, 0, rfl, by omega, isFlat_nil _ _ _, HB0.out⟩
  have t4 : decide (256 ≤ x1) = false := decide_eq_false n4
  by_cases n5 : 256 ≤ y1
  · have t5 : decide (256 ≤ y1) = true := decide_eq_true n5
    obtain ⟨rfl, rfl⟩ := HBad.out (.inr (.inr (.inr (.inr (.inr (by omega))))))
    clear HBad HOk
    go_enter Try.func35, Try.ntmps35
    go_wp2_with fail
    go_ret2
    exact ⟨_, 0, rfl, by omega, isFlat_nil _ _ _, HB0.out⟩
  have t5 : decide (256 ≤ y1) = false := decide_eq_false n5
  obtain ⟨rfl, rfl⟩ := HOk.out (by unfold BadCover; omega)
  have HC : Hid (Calls Try.prog 81 #[.agg #[.int .i64 x0, .int .i64 y0, .int .i64 x1, .int .i64 y1], .int .i64 0, .int .i64 0, .int .i64 256, .slice none 0 0] (w.alloc (.cells #[.int .i64 x0, .int .i64 y0, .int .i64 x1, .int .i64 y1] 65)) (GivesCover 69 w.heap.size (w.alloc (.cells #[.int .i64 x0, .int .i64 y0, .int .i64 x1, .int .i64 y1] 65)) (.slice none 0 0) (runsK (inC x0 y0 x1 y1) 65536))) := Lib.hid (by
    have e4 : (4 : Nat) ^ 8 = 65536 := by decide
    have e2 : (2 : Nat) ^ 8 = 256 := by decide
    have := cover_any x0 y0 x1 y1 w.heap.size 8 0 (w.alloc (.cells #[.int .i64 x0, .int .i64 y0, .int .i64 x1, .int .i64 y1] 65)) (.slice none 0 0) (by omega) (by omega) (by simp) (by rw [Nat.mul_zero, runsK_0, flatR_nil]; exact World.ownsRow_nil _ _ _ _)
    rw [Nat.sub_self, dxK_0, dyK_0, Nat.mul_zero, e2] at this
    exact this)
  have HL : Hid ((runsK (inC x0 y0 x1 y1) 65536).length ≤ 65536) := Lib.hid (runsK_len _ _)
  clear HBad HOk
  go_enter Try.func35, Try.ntmps35
  go_wp2_with (go_at_call 81; refine (HC.out).mono ?_; rintro e1 w1 ⟨v1, rfl, ho1, hg1⟩)
  go_ret2
  exact ⟨_, _, rfl, HL.out, own_flat ho1 (by have := HL.out; omega) (runs_wf _ _ _ _), HB0.out.trans (hg1.below (by simp) (fun g e => by cases e))⟩
set_option maxRecDepth 100000 in
set_option maxHeartbeats 16000000 in
theorem refCover_any (x0 y0 x1 y1 : Int) (r : List Int) (cc : Int) (w : World) (hR : CoverR x0 y0 x1 y1 r cc) :
    Calls Try.prog 36 #[.agg #[.int .i64 x0, .int .i64 y0, .int .i64 x1, .int .i64 y1]] w (GivesSpans r cc w) := by
  have HB0 := Lib.hid ((Below.refl w.heap.size w).alloc (Nat.le_refl _) (.cells #[.int .i64 x0, .int .i64 y0, .int .i64 x1, .int .i64 y1] 65))
  have HBx := Lib.hid (Blk.new w 65 #[.int .i64 x0, .int .i64 y0, .int .i64 x1, .int .i64 y1])
  have HBad := Lib.hid fun h => hR.bad h
  have HOk := Lib.hid fun h => hR.ok h
  clear hR
  by_cases n0 : x0 < 0
  · have t0 : decide (x0 < 0) = true := decide_eq_true n0
    obtain ⟨rfl, rfl⟩ := HBad.out (.inl n0)
    clear HBad HOk
    go_enter Try.func36, Try.ntmps36
    go_wp2_with fail
    go_ret2
    exact ⟨_, 0, rfl, by omega, isFlat_nil _ _ _, HB0.out⟩
  have t0 : decide (x0 < 0) = false := decide_eq_false n0
  by_cases n1 : y0 < 0
  · have t1 : decide (y0 < 0) = true := decide_eq_true n1
    obtain ⟨rfl, rfl⟩ := HBad.out (.inr (.inl n1))
    clear HBad HOk
    go_enter Try.func36, Try.ntmps36
    go_wp2_with fail
    go_ret2
    exact ⟨_, 0, rfl, by omega, isFlat_nil _ _ _, HB0.out⟩
  have t1 : decide (y0 < 0) = false := decide_eq_false n1
  by_cases n2 : 255 < x1
  · have t2 : decide (255 < x1) = true := decide_eq_true n2
    obtain ⟨rfl, rfl⟩ := HBad.out (.inr (.inr (.inr (.inr (.inl n2)))))
    clear HBad HOk
    go_enter Try.func36, Try.ntmps36
    go_wp2_with fail
    go_ret2
    exact ⟨_, 0, rfl, by omega, isFlat_nil _ _ _, HB0.out⟩
  have t2 : decide (255 < x1) = false := decide_eq_false n2
  by_cases n3 : 255 < y1
  · have t3 : decide (255 < y1) = true := decide_eq_true n3
    obtain ⟨rfl, rfl⟩ := HBad.out (.inr (.inr (.inr (.inr (.inr n3)))))
    clear HBad HOk
    go_enter Try.func36, Try.ntmps36
    go_wp2_with fail
    go_ret2
    exact ⟨_, 0, rfl, by omega, isFlat_nil _ _ _, HB0.out⟩
  have t3 : decide (255 < y1) = false := decide_eq_false n3
  by_cases n4 : x1 < x0
  · have t4 : decide (x1 < x0) = true := decide_eq_true n4
    obtain ⟨rfl, rfl⟩ := HBad.out (.inr (.inr (.inl n4)))
    clear HBad HOk
    go_enter Try.func36, Try.ntmps36
    go_wp2_with fail
    go_ret2
    exact ⟨_, 0, rfl, by omega, isFlat_nil _ _ _, HB0.out⟩
  have t4 : decide (x1 < x0) = false := decide_eq_false n4
  by_cases n5 : y1 < y0
  · have t5 : decide (y1 < y0) = true := decide_eq_true n5
    obtain ⟨rfl, rfl⟩ := HBad.out (.inr (.inr (.inr (.inl n5))))
    clear HBad HOk
    go_enter Try.func36, Try.ntmps36
    go_wp2_with fail
    go_ret2
    exact ⟨_, 0, rfl, by omega, isFlat_nil _ _ _, HB0.out⟩
  have t5 : decide (y1 < y0) = false := decide_eq_false n5
  obtain ⟨rfl, rfl⟩ := HOk.out (by unfold BadCover; omega)
  obtain ⟨a0, rfl⟩ : ∃ a : Nat, x0 = a := ⟨x0.toNat, by omega⟩
  obtain ⟨b0, rfl⟩ : ∃ a : Nat, y0 = a := ⟨y0.toNat, by omega⟩
  obtain ⟨a1, rfl⟩ : ∃ a : Nat, x1 = a := ⟨x1.toNat, by omega⟩
  obtain ⟨b1, rfl⟩ : ∃ a : Nat, y1 = a := ⟨y1.toNat, by omega⟩
  have hd : a0 ≤ a1 ∧ a1 ≤ 255 ∧ b0 ≤ b1 ∧ b1 ≤ 255 := by omega
  have s4 : decide (a1 < a0) = false := decide_eq_false (by omega)
  have s5 : decide (b1 < b0) = false := decide_eq_false (by omega)
  have HS := Lib.hid (codes_sorted hd.1 hd.2.1 hd.2.2.1 hd.2.2.2)
  have HCode : Hid (∀ (x y : Nat) (W : World), x ≤ 255 → y ≤ 255 → Calls Try.prog 82 #[.int .i64 x, .int .i64 y] W fun e w' => e = .returned (.tuple #[.int .i64 (cdK 8 x y : Nat), .int .i64 0]) ∧ Drawn W w') := Lib.hid fun x y W hx hy => by
    have := refCode_any x y (cdK 8 x y : Nat) 0 W (by unfold I64; omega) (by unfold I64; omega) (.inl ⟨by omega, by omega, by omega, by omega, by rw [Int.toNat_natCast, Int.toNat_natCast, show 21 = 8 + 13 from rfl, zip_more x y 8 (by omega) (by omega) 13, cdK_zip], rfl⟩)
    exact this
  have hny : b1 + 1 - b0 ≤ 256 ∧ a1 + 1 - a0 ≤ 256 := by omega
  clear HBad HOk n0 n1 n2 n3 n4 n5
  have hzw : (w.alloc (.cells #[.int .i64 (a0 : Int), .int .i64 (b0 : Int), .int .i64 (a1 : Int), .int .i64 (b1 : Int)] 65)).heap.size = w.heap.size + 1 := by simp
  have HZ := Lib.hid hzw
  clear hzw
  go_enter Try.func36, Try.ntmps36
  go_upto_region 3 with fail
  generalize w.alloc (.cells #[.int .i64 (a0 : Int), .int .i64 (b0 : Int), .int .i64 (a1 : Int), .int .i64 (b1 : Int)] 65) = W at *
  have k0 := (HBx.out.cell 0).trans rfl
  go_wp2_with fail
  clear k0
  go_loopw [4, 5, 6, 7, 8] (fun ov xv _ _ _ wr => ∃ i : Nat, i ≤ a1 + 1 - a0 ∧ xv = .int .i64 ((a0 + i : Nat) : Int) ∧ Hid (wr.ownsRow W.heap.size 3 1 ov (codesAll a0 b0 (b1 + 1 - b0) i).length ((natC (codesAll a0 b0 (b1 + 1 - b0) i)).map (Value.int .i64))) ∧ Hid (Below W.heap.size W wr)) (fun _ xv _ _ _ _ => a1 + 1 - (intOf xv).toNat)
  case atStart => exact ⟨0, by omega, by go_num, Lib.hid (by rw [codesAll_0]; exact World.ownsRow_nil _ _ _ _), Lib.hid (Below.refl _ _)⟩
  case round =>
    obtain ⟨wo, rfl⟩ : ∃ wo : World, wo = wr := ⟨_, rfl⟩
    obtain ⟨i, hi, rfl, HO, HB⟩ := hrel
    have hbl := HBx.out.lt
    have HBo := Lib.hid (HBx.out.below HB.out hbl)
    have k0 := (HBo.out.cell 0).trans rfl
    have k1 := (HBo.out.cell 1).trans rfl
    have k2 := (HBo.out.cell 2).trans rfl
    have k3 := (HBo.out.cell 3).trans rfl
    have hci : (codesAll a0 b0 (b1 + 1 - b0) i).length ≤ 65536 := by
      rw [codesAll_len]
      have : i * (b1 + 1 - b0) ≤ 256 * 256 := Nat.mul_le_mul (by omega) (by omega)
      omega
    have hci2 : i < a1 + 1 - a0 → (codesAll a0 b0 (b1 + 1 - b0) i).length ≤ 65536 - 256 := fun h => by
      rw [codesAll_len]
      have : i * (b1 + 1 - b0) ≤ 255 * 256 := Nat.mul_le_mul (by omega) (by omega)
      omega
    have hzo := HB.out.size
    by_cases hlt : i < a1 + 1 - a0
    · have i1 : ((a0 + i : Nat) : Int) ≤ (a1 : Int) := by omega
      have i2 : decide (a0 + i ≤ a1) = true := decide_eq_true (by omega)
      have hc3 := hci2 hlt
      obtain ⟨x, hx⟩ : ∃ x, a0 + i = x := ⟨_, rfl⟩
      have HX := Lib.hid hx
      rw [hx] at i1 i2 ⊢
      have hx255 : x ≤ 255 := by omega
      have HSucc := Lib.hid (codesAll_succ a0 b0 (b1 + 1 - b0) i)
      rw [hx] at HSucc
      clear hx hci hci2
      obtain ⟨cl, hcl⟩ : ∃ cl, codesAll a0 b0 (b1 + 1 - b0) i = cl := ⟨_, rfl⟩
      rw [hcl] at HO HSucc hc3
      clear hcl
      go_wp2_with fail
      clear k0 k1 k2 k3
      go_loopw [4, 6, 7, 8] (fun ov yv _ _ wr => ∃ j : Nat, j ≤ b1 + 1 - b0 ∧ yv = .int .i64 ((b0 + j : Nat) : Int) ∧ Hid (wr.ownsRow W.heap.size 3 1 ov (cl.length + j) ((natC (cl ++ codesRow b0 x j)).map (Value.int .i64))) ∧ Hid (Below W.heap.size W wr)) (fun _ yv _ _ _ => b1 + 1 - (intOf yv).toNat)
      case atStart => exact ⟨0, by omega, by go_num, Lib.hid (by rw [codesRow_0, List.append_nil]; exact HO.out), HB⟩
      case round =>
        clear HO HB HBo
        obtain ⟨wi, rfl⟩ : ∃ wi : World, wi = wr := ⟨_, rfl⟩
        obtain ⟨j, hj, rfl, HO, HB⟩ := hrel
        have HBo := Lib.hid (HBx.out.below HB.out hbl)
        have k1 := (HBo.out.cell 1).trans rfl
        have k2 := (HBo.out.cell 2).trans rfl
        have k3 := (HBo.out.cell 3).trans rfl
        have hzi := HB.out.size
        by_cases hlt2 : j < b1 + 1 - b0
        · have j1 : ((b0 + j : Nat) : Int) ≤ (b1 : Int) := by omega
          have j2 : decide (b0 + j ≤ b1) = true := decide_eq_true (by omega)
          obtain ⟨y, hy⟩ : ∃ y, b0 + j = y := ⟨_, rfl⟩
          have HSr := Lib.hid (codesRow_succ b0 x j)
          rw [hy] at j1 j2 HSr ⊢
          have HY := Lib.hid hy
          have hy255 : y ≤ 255 := by omega
          clear hy
          have HC := Lib.hid (HCode.out x y wi hx255 hy255)
          obtain ⟨A2, c2, rfl⟩ := own_shape HO.out
          go_upto_region 11 with (go_at_call 82; refine (HC.out).mono ?_; rintro e1 w3 ⟨rfl, hd3⟩)
          have HO3 := Lib.hid (own_size HO.out (hd3.below _))
          have HB3 := Lib.hid (HB.out.trans (hd3.below _))
          have hz3 := (hd3.below w.heap.size).size
          clear k1 k2 k3 hd3
          go_wp2_with (at_builtin; refine wpList_pushD el_int rfl (.tmp 67) (.tmp 69) rfl W.heap.size _ (cl.length + j) _ (HO3.out.alloc _) rfl w3.heap.size 1 _ rfl (new_cell rfl) rfl (by omega) (by omega) (by simp; omega) ?_; intro v2 w4 hown2 hg2 hl2)
          go_roundw
          case rel => exact ⟨j + 1, by omega, by have := HY.out; go_num, Lib.hid (by rw [HSr.out, ← List.append_assoc, natC_snoc, List.map_append]; exact hown2), Lib.hid (below_push (HB3.out.alloc (by omega) _) (HO3.out.alloc _) (Nat.le_refl _) (by simp; omega) hg2)⟩
          case measure => simp [intOf]; omega
        · obtain rfl : j = b1 + 1 - b0 := by omega
          have j1 : ¬ ((b0 + (b1 + 1 - b0) : Nat) : Int) ≤ (b1 : Int) := by omega
          have j2 : decide (b0 + (b1 + 1 - b0) ≤ b1) = false := decide_eq_false (by omega)
          go_wp2_with fail
          go_roundw
          case rel => exact ⟨i + 1, by omega, by have := HX.out; go_num, Lib.hid (by rw [HSucc.out, List.length_append, codesRow_len]; exact HO.out), HB⟩
          case measure => have := HX.out; simp [intOf]; omega
    · obtain rfl : i = a1 + 1 - a0 := by omega
      have i1 : ¬ ((a0 + (a1 + 1 - a0) : Nat) : Int) ≤ (a1 : Int) := by omega
      have i2 : decide (a0 + (a1 + 1 - a0) ≤ a1) = false := decide_eq_false (by omega)
      obtain ⟨A2, c2, rfl⟩ := own_shape HO.out
      have HSort := Lib.hid (sortInts_own HO.out (by omega))
      rw [HS.out] at HSort
      have hlen : (codesAll a0 b0 (b1 + 1 - b0) (a1 + 1 - a0)).length = (metL a0 b0 a1 b1).length := by
        have := congrArg List.length HS.out
        rw [sortI_len, natC_len, natC_len] at this; exact this
      have HMl := Lib.hid (metL_len a0 b0 a1 b1)
      have HEnd := Lib.hid (runsTo_end (a0 : Int) b0 a1 b1)
      have HLt := Lib.hid fun c (hc : c ∈ metL (a0 : Int) b0 a1 b1) => metL_lt hc
      rw [hlen] at HSort HO ⊢
      clear HS hlen hci hci2 HCode
      obtain ⟨S, hS⟩ : ∃ S, metL (a0 : Int) b0 a1 b1 = S := ⟨_, rfl⟩
      rw [hS] at HSort HO HMl HEnd HLt ⊢
      clear hS
      go_wp2_with (go_at_call 83; refine (HSort.out).mono ?_; rintro e1 w3 ⟨rfl, ho3, hg3⟩; have HOc0 := Lib.hid ho3; have HB3 := Lib.hid (below_push HB.out HO.out (Nat.le_refl _) hzo hg3); clear ho3 hg3)
      clear k0 k1 k2 k3
      go_loopw [9, 11, 12, 75] (fun ov _ _ iv wr => ∃ t : Nat, t ≤ S.length ∧ iv = .int .i64 t ∧ Hid (wr.ownsRow W.heap.size 69 2 ov (runsTo S t).length ((flatR (runsTo S t)).map (Value.int .i64))) ∧ Hid (wr.ownsRow W.heap.size 3 1 (.slice A2 S.length c2) S.length ((natC S).map (Value.int .i64))) ∧ Hid (Below W.heap.size W wr)) (fun _ _ _ iv _ => S.length - (intOf iv).toNat)
      case atStart => exact ⟨0, by omega, rfl, Lib.hid (by rw [runsTo_0, flatR_nil]; exact World.ownsRow_nil _ _ _ _), HOc0, HB3⟩
      case round =>
        clear HO HB HB3 HOc0
        obtain ⟨wi, rfl⟩ : ∃ wi : World, wi = wr := ⟨_, rfl⟩
        obtain ⟨t, ht, rfl, HOt, HOc, HBt⟩ := hrel
        have hzi := HBt.out.size
        have HMl2 := HMl.out
        obtain ⟨A3, c3, rfl⟩ := own_shape HOt.out
        by_cases hlt : t < S.length
        · have j1 : (t : Int) < (S.length : Int) := by omega
          have j2 : decide (t < S.length) = true := decide_eq_true hlt
          obtain ⟨g2, cap2, hv2, hbg2, hgl2⟩ := HOc.out.form (by omega)
          injection hv2 with hA2 _ hc2
          subst hA2 hc2
          have HSt := Lib.hid (runsTo_succ hlt)
          have k9 : wi.cell? ⟨g2, t, none⟩ = some (.int .i64 ((S[t] : Nat) : Int)) := by
            rw [HOc.out.cellAt t (by omega), List.getElem?_map]
            unfold natC
            rw [List.getElem?_map, List.getElem?_eq_getElem hlt]; rfl
          have hxl := HLt.out S[t] (List.getElem_mem hlt)
          generalize S[t] = x at *
          have HAp0 := Lib.hid fun A n c n' xs (h : wi.ownsRow W.heap.size 69 2 (.slice A n c) n' xs) => own_apart h HOc.out (by decide)
          have hrl := runsTo_len S t
          have HMem := Lib.hid (runsTo_mem HLt.out t)
          obtain ⟨L, hL⟩ : ∃ L, runsTo S t = L := ⟨_, rfl⟩
          rw [hL] at HOt HSt hrl HMem ⊢
          clear hL
          rcases List.eq_nil_or_concat L with rfl | ⟨m, ⟨a, b⟩, rfl⟩
          · have hnl : ([] : List (Nat × Nat)).length = 0 := rfl
            rw [hnl, flatR_nil] at HOt
            rw [hnl]
            have HAp : Hid ((Value.slice (some ⟨g2, 0, none⟩) S.length c2).ownBlock ≠ (Value.slice A3 0 c3).ownBlock) := Lib.hid (fun e => HAp0.out _ _ _ _ _ HOt.out g2 (by rw [← e]; rfl) rfl)
            rw [addRun_nil] at HSt
            have e1 := flatR_snoc [] x x
            rw [flatR_nil, List.nil_append, List.nil_append] at e1
            have HE1 := Lib.hid e1
            clear e1 hnl
            go_wp2_with (at_builtin; refine wpList_pushM el_span rfl (.tmp 100) (.tmp 104) rfl W.heap.size _ 0 _ (HOt.out.alloc _) rfl ⟨wi.heap.size, 0, none⟩ 1 _ [.int .i64 (x : Int), .int .i64 (x : Int)] rfl rfl (span_news rfl) span_ones (by omega) (by omega) (by simp; omega) ?_; intro v' w4 hown4 hg4 hl4)
            go_roundw
            case rel => exact ⟨t + 1, by omega, by go_num, Lib.hid (by rw [HSt.out]; rw [HE1.out]; exact hown4), Lib.hid ((HOc.out.alloc _).kept hg4 (.inr HAp.out)), Lib.hid (below_push (HBt.out.alloc (by omega) _) (HOt.out.alloc _) (Nat.le_refl _) (by simp; omega) hg4)⟩
            case measure => simp [intOf]; omega
          · rw [List.concat_eq_append] at HOt HSt hrl HMem ⊢
            have hml : (m ++ [(a, b)]).length = m.length + 1 := by simp
            have HAp : Hid ((Value.slice (some ⟨g2, 0, none⟩) S.length c2).ownBlock ≠ (Value.slice A3 (m ++ [(a, b)]).length c3).ownBlock) := Lib.hid (fun e => HAp0.out _ _ _ _ _ HOt.out g2 (by rw [← e]; rfl) rfl)
            have hbl2 := (HMem.out (a, b) (by simp)).2
            rw [hml] at HOt hrl HAp ⊢
            have HMl3 := Lib.hid hml
            clear hml
            have hfl := Lib.hid (flatR_len m)
            obtain ⟨g, cap, hv, hbg, hgl⟩ := HOt.out.form (by omega)
            injection hv with hA _ hc
            subst hA hc
            have k8 : wi.cell? ⟨g, m.length * 2 + 1, none⟩ = some (.int .i64 b) := by
              rw [HOt.out.cellAt _ (by omega), flatR_snoc, List.getElem?_map, List.getElem?_append_right (by rw [hfl.out]; omega), hfl.out]
              simp
            have f8 := HOt.out.frozenAt (m.length * 2 + 1)
            have q1 : ((m.length + 1 : Nat) : Int) - 1 = (m.length : Int) := by omega
            by_cases hb : b + 1 = x
            · subst hb
              rw [addRun_on] at HSt
              have q2 : ((b : Int) + 1 == ((b + 1 : Nat) : Int)) = true := beq_iff_eq.2 (by omega)
              have hne : g2 ≠ g := fun e => HAp.out (by rw [e]; rfl)
              have ho := HOt.out.stored (m.length * 2 + 1) (.int .i64 (((b + 1 : Nat) : Int)))
              have e1 : ((flatR (m ++ [(a, b)])).map (Value.int .i64)).set (m.length * 2 + 1) (.int .i64 (((b + 1 : Nat) : Int))) = (flatR (m ++ [(a, b + 1)])).map (Value.int .i64) := by
                rw [flatR_snoc, flatR_snoc, List.map_append, List.map_append, List.set_append_right _ _ (by rw [List.length_map, hfl.out]; omega), List.length_map, hfl.out, show m.length * 2 + 1 - m.length * 2 = 1 from by omega]
                rfl
              rw [e1, show (((b + 1 : Nat) : Int)) = (b : Int) + 1 from by omega] at ho
              have HOs := Lib.hid ho.1
              clear ho e1
              go_wp2_with fail
              go_roundw
              case rel => exact ⟨t + 1, by omega, by go_num, Lib.hid (by rw [HSt.out, show (m ++ [(a, b + 1)]).length = m.length + 1 from by simp]; exact HOs.out), Lib.hid (ownsRow_setCell_other HOc.out (a := ⟨g, m.length * 2 + 1, none⟩) (fun e => hne (by injection e)) _), Lib.hid (HBt.out.setCell (p := ⟨g, m.length * 2 + 1, none⟩) hbg _)⟩
              case measure => simp [intOf]; omega
            · rw [addRun_off _ hb] at HSt
              have q2 : ((b : Int) + 1 == (x : Int)) = false := beq_eq_false_iff_ne.2 (by omega)
              go_wp2_with (at_builtin; refine wpList_pushM el_span rfl (.tmp 100) (.tmp 104) rfl W.heap.size _ (m.length + 1) _ (HOt.out.alloc _) rfl ⟨wi.heap.size, 0, none⟩ 1 _ [.int .i64 (x : Int), .int .i64 (x : Int)] rfl rfl (span_news rfl) span_ones (by omega) (by omega) (by simp; omega) ?_; intro v' w4 hown4 hg4 hl4)
              go_roundw
              case rel => exact ⟨t + 1, by omega, by go_num, Lib.hid (by rw [HSt.out]; rw [flatR_snoc, List.map_append, List.length_append, List.length_singleton, HMl3.out]; exact hown4), Lib.hid ((HOc.out.alloc _).kept hg4 (.inr HAp.out)), Lib.hid (below_push (HBt.out.alloc (by omega) _) (HOt.out.alloc _) (Nat.le_refl _) (by simp; omega) hg4)⟩
              case measure => simp [intOf]; omega
        · obtain rfl : t = S.length := by omega
          have j1 : ¬ (S.length : Int) < (S.length : Int) := by omega
          have j2 : decide (S.length < S.length) = false := decide_eq_false (by omega)
          go_wp2_with fail
          go_ret2
          have hrl := runsTo_len S S.length
          have h9 := own_flat HOt.out (by omega) (by rw [HEnd.out]; exact runs_wf _ _ _ _)
          refine ⟨_, (runsTo S S.length).length, rfl, by omega, by rw [← HEnd.out]; exact h9, HB0.out.trans (HBt.out.mono (by have := HB0.out.size; exact this))⟩
end Go.Proofs.Ytaipnjoeejgnnaa
