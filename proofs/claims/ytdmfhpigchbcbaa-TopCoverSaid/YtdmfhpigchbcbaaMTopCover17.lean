/-
  Contracts of wave.fault, wave.below and wave.kth. Conditions: the wave can be read as data.
-/
import Derived.Test.YtdmfhpigchbcbaaMTopCover15
import Derived.Test.YtdmfhpigchbcbaaMTopCover16
import Derived.Lib.QuietBelow
namespace Go.Dam
open Go Go.RowKit
set_option linter.unusedVariables false
/-- The numbers of a range, sorted. -/
def sW (rs : List (Int × List Nat)) (n a b : Nat) : List Int := sortI (segW (valW n (rowsW rs) rs.length) n a b)
theorem sW_length (rs : List (Int × List Nat)) {n a b : Nat} (hab : a ≤ b) (hb : b ≤ n) : (sW rs n a b).length = b - a := by unfold sW; rw [sortI_len, segW_length hab hb]
theorem sW_sorted (rs : List (Int × List Nat)) (n a b : Nat) : (sW rs n a b).Pairwise (· ≤ ·) := sortI_sorted _
theorem sW_lt (rs : List (Int × List Nat)) {n a b : Nat} (y : Nat) (hab : a ≤ b) (hb : b ≤ n) : (sW rs n a b).countP (fun z => decide (z < (y : Int))) = ltW n (rowsW rs) (fun j => decide (a ≤ j ∧ j < b)) rs.length y := by
  unfold sW
  rw [(sortI_perm _).countP_eq, segW_count _ hab hb, ltW_def]
  refine countN_congr fun j _ => ?_
  congr 1
  by_cases h : valW n (rowsW rs) rs.length j < y <;> simp [h] <;> omega
theorem sW_eq (rs : List (Int × List Nat)) {n a b N a' b' : Nat} (hab : a ≤ b) (hb : b ≤ n) (h : Seg n (rowsW rs) (fun j => decide (a ≤ j ∧ j < b)) rs.length N a' b') : (sW rs n a b).countP (fun z => decide (z = (N : Int))) = b' - a' := by
  unfold sW
  rw [(sortI_perm _).countP_eq, segW_count _ hab hb, ← h.count]
  refine countN_congr fun j _ => ?_
  congr 1
  by_cases h : valW n (rowsW rs) rs.length j = N <;> simp [h] <;> omega
theorem sW_all (rs : List (Int × List Nat)) {n a b : Nat} {x : Int} (hab : a ≤ b) (hb : b ≤ n) (h : ∀ j, (valW n (rowsW rs) rs.length j : Int) < x) : (sW rs n a b).countP (fun z => decide (z < x)) = b - a := by
  unfold sW
  rw [(sortI_perm _).countP_eq, segW_count _ hab hb, ← countN_between a b n hb]
  refine countN_congr fun j _ => ?_
  rw [decide_eq_true (h j), Bool.and_true]
theorem sW_none (rs : List (Int × List Nat)) {n a b : Nat} {x : Int} (hab : a ≤ b) (hb : b ≤ n) (h : x ≤ 0) : (sW rs n a b).countP (fun z => decide (z < x)) = 0 := by
  unfold sW
  rw [(sortI_perm _).countP_eq, segW_count _ hab hb]
  exact countN_none fun j _ => by rw [decide_eq_false (show ¬ ((valW n (rowsW rs) rs.length j : Nat) : Int) < x by omega), Bool.and_false]
/-- What the range's fault is. -/
def FaultR (rs : List (Int × List Nat)) (a b cc : Int) : Prop :=
  (¬ MayWave rs ∧ cc = 4) ∨ (MayWave rs ∧ (a < 0 ∨ (¬ a < 0 ∧ b < a) ∨ (¬ a < 0 ∧ ¬ b < a ∧ lenW rs < b)) ∧ cc = 2) ∨ (MayWave rs ∧ (∃ p q : Nat, a = p ∧ b = q ∧ p ≤ q ∧ (q : Int) ≤ lenW rs) ∧ cc = 0)
theorem FaultR.ex (rs : List (Int × List Nat)) (a b : Int) : ∃ cc, FaultR rs a b cc := by
  by_cases hm : MayWave rs
  · by_cases h : a < 0 ∨ (¬ a < 0 ∧ b < a) ∨ (¬ a < 0 ∧ ¬ b < a ∧ lenW rs < b)
    · exact ⟨_, .inr (.inl ⟨hm, h, rfl⟩)⟩
    · exact ⟨_, .inr (.inr ⟨hm, ⟨a.toNat, b.toNat, by omega, by omega, by omega, by omega⟩, rfl⟩)⟩
  · exact ⟨_, .inl ⟨hm, rfl⟩⟩
theorem dnW_sum (ws : List Nat) (n : Nat) {a b : Nat} (h : a ≤ b) : (dnW ws n true b - dnW ws n true a) + (dnW ws n false b - dnW ws n false a) = b - a := by
  rw [dnW_true, dnW_true, dnW_false, dnW_false]
  have h1 := cntB_both ws a
  have h2 := cntB_both ws b
  have h3 := cntB_upto ws true h
  have h4 := cntB_upto ws false h
  omega
theorem sW_def (rs : List (Int × List Nat)) (n a b : Nat) : sW rs n a b = sortI (segW (valW n (rowsW rs) rs.length) n a b) := rfl
theorem sW_wf {rs : List (Int × List Nat)} {n a b : Nat} (h : rs.length ≤ 21) : ∀ z ∈ sW rs n a b, (Lit.int .i64 z).wf = true := by
  intro z hz
  unfold sW at hz
  exact tab_wf (b := 2097152) (fun j _ => valW_bound h) (by decide) z (segW_mem ((sortI_perm _).mem_iff.1 hz))
attribute [irreducible] sW
end Go.Dam
namespace Go.Proofs.Ytdmfhpigchbcbaa
open Go Go.RowKit Go.Dam
set_option linter.unusedVariables false
set_option maxRecDepth 100000 in
set_option maxHeartbeats 1000000 in
theorem waveFault_any (v : Value) (rs : List (Int × List Nat)) (a b cc : Int) (w : World) (B : Nat) (hB : B ≤ w.heap.size) (h : IsWave w B v rs) (ha : I64 a) (hb : I64 b) (hR : FaultR rs a b cc) :
    Calls Try.prog 25 #[v, .int .i64 a, .int .i64 b] w fun e w' => e = .returned (.int .i64 cc) ∧ Below w.heap.size w w' := by
  unfold I64 at ha hb
  have HLen := Lib.hid fun W (hW : Below w.heap.size w W) => waveLen_any v rs W B (Nat.le_trans hB hW.size) (h.below (hW.mono hB))
  have HMay := Lib.hid fun r hr W (hW : Below w.heap.size w W) => waveMay_any v rs r W B (Nat.le_trans hB hW.size) (h.below (hW.mono hB)) hr
  obtain ⟨s, rfl, h⟩ := h
  obtain ⟨A, c, vs, rfl, hc, hm, hn, _, _⟩ := h
  have HA := Lib.hid ((Below.refl w.heap.size w).alloc (Nat.le_refl _) (.cells #[.slice A rs.length c] 34))
  rcases hR with ⟨hmw, rfl⟩ | ⟨hmw, hi, rfl⟩ | ⟨hmw, ⟨p, q, rfl, rfl, hpq, hql⟩, rfl⟩
  · have HM := Lib.hid (HMay.out false (mayW_no hmw).symm _ HA.out)
    clear hmw HMay HLen
    go_enter Try.func25, Try.ntmps25
    go_wp2_with (go_at_call 42; refine (HM.out).mono ?_; rintro e w1 ⟨rfl, hb⟩)
    go_ret
    exact ⟨rfl, below_box hb⟩
  · have HM := Lib.hid (HMay.out true (mayW_yes hmw).symm _ HA.out)
    clear hmw HMay
    rcases hi with h1 | ⟨h1, h2⟩ | ⟨h1, h2, h3⟩
    all_goals
      go_enter Try.func25, Try.ntmps25
      go_wp2_with (first
        | (go_at_call 42; refine (HM.out).mono ?_; rintro e w1 ⟨rfl, hb⟩; have k0 := box1' hb; have HB1 := Lib.hid (below_box hb); clear hb)
        | (go_at_call 43; refine (HLen.out _ HB1.out).mono ?_; rintro e w2 ⟨rfl, hb2⟩))
      go_ret
      first
        | exact ⟨rfl, HB1.out⟩
        | exact ⟨rfl, HB1.out.trans (hb2.mono HB1.out.size)⟩
  · have HM := Lib.hid (HMay.out true (mayW_yes hmw).symm _ HA.out)
    have h1 : ¬ (p : Int) < 0 := by omega
    have h2 : ¬ (q : Int) < (p : Int) := by omega
    have h3 : ¬ lenW rs < (q : Int) := by omega
    clear hmw HMay
    go_enter Try.func25, Try.ntmps25
    go_wp2_with (first
      | (go_at_call 42; refine (HM.out).mono ?_; rintro e w1 ⟨rfl, hb⟩; have k0 := box1' hb; have HB1 := Lib.hid (below_box hb); clear hb)
      | (go_at_call 43; refine (HLen.out _ HB1.out).mono ?_; rintro e w2 ⟨rfl, hb2⟩))
    go_ret
    exact ⟨rfl, HB1.out.trans (hb2.mono HB1.out.size)⟩
set_option maxRecDepth 100000 in
set_option maxHeartbeats 4000000 in
theorem waveBelow_any (v : Value) (rs : List (Int × List Nat)) (n a b : Nat) (x : Int) (w : World) (B : Nat) (hB : B ≤ w.heap.size) (h : IsWave w B v rs) (hmw : MayWave rs) (hln : lenW rs = n) (hab : a ≤ b) (hbn : b ≤ n) (hx64 : I64 x) :
    Calls Try.prog 72 #[v, .int .i64 a, .int .i64 b, .int .i64 x] w fun e w' => e = .returned (.int .i64 (((sW rs n a b).countP (fun z => decide (z < x)) : Nat) : Int)) ∧ Below w.heap.size w w' := by
  obtain ⟨n', hln', hn300, hn0, hm21, hrow⟩ := mayWave_len hmw
  obtain rfl : n = n' := by omega
  have HFit := Lib.hid fun r hr W (hW : Below w.heap.size w W) => waveFits_any v rs x r W B (Nat.le_trans hB hW.size) (h.below (hW.mono hB)) hx64 hm21 hr
  unfold I64 at hx64
  obtain ⟨s, rfl, h⟩ := h
  have HI := Lib.hid h
  obtain ⟨A, c, vs, rfl, hc, hm, hl, _, _⟩ := h
  have HA := Lib.hid ((Below.refl w.heap.size w).alloc (Nat.le_refl _) (.cells #[.slice A rs.length c] 34))
  by_cases hx0 : x ≤ 0
  · have HE : Hid ((((sW rs n a b).countP (fun z => decide (z < x)) : Nat) : Int) = 0) := Lib.hid (by rw [sW_none rs hab hbn hx0]; rfl)
    rw [HE.out]
    clear HFit HI hmw hrow hln hln'
    go_enter Try.func72, Try.ntmps72
    go_wp2_with fail
    go_ret
    exact ⟨rfl, HA.out⟩
  obtain ⟨y, hxy⟩ : ∃ y : Nat, x = y := ⟨x.toNat, by omega⟩
  subst hxy
  by_cases hy2 : y / 2 ^ rs.length = 0
  · have HF := Lib.hid (HFit.out true (.inr ⟨y, rfl, by omega, (decide_eq_true hy2).symm⟩) _ HA.out)
    have HBit := Lib.hid fun i => bit_at y i (by omega)
    have HEnd := Lib.hid (sW_lt rs y hab hbn)
    have HRow := Lib.hid hrow
    have HY2 := Lib.hid hy2
    have HNb := Lib.hid fun L z => ltW_le n (rowsW rs) (fun j => decide (a ≤ j ∧ j < b)) L z
    clear hmw HFit hrow hln hln' hn0 hy2
    go_enter Try.func72, Try.ntmps72
    go_wp2_with (go_at_call 86; refine (HF.out).mono ?_; rintro e w1 ⟨rfl, hb⟩; have k0 := box1' hb; have HB1 := Lib.hid (below_box hb); have hz1 := size_box hb; clear hb)
    clear HF
    go_loopw [1, 2, 9, 27] (fun av bv nv kv wr => ∃ L a' b' : Nat, L ≤ rs.length ∧ kv = .int .i64 L ∧ av = .int .i64 a' ∧ bv = .int .i64 b' ∧ nv = .int .i64 ((ltW n (rowsW rs) (fun j => decide (a ≤ j ∧ j < b)) L (y / 2 ^ (rs.length - L)) : Nat) : Int) ∧ Seg n (rowsW rs) (fun q => decide (a ≤ q ∧ q < b)) L (y / 2 ^ (rs.length - L)) a' b' ∧ Below w1.heap.size w1 wr) (fun _ _ _ kv _ => rs.length - (intOf kv).toNat)
    case atStart => exact ⟨0, a, b, by omega, rfl, rfl, rfl, by rw [Nat.sub_zero, HY2.out, ltW_0]; rfl, by rw [Nat.sub_zero, HY2.out]; exact Seg.start n _ hab hbn, Below.refl _ _⟩
    case round =>
      obtain ⟨L, a', b', hk, rfl, rfl, rfl, rfl, hseg, hbel⟩ := hrel
      have HBe : Hid (Below w.heap.size w wr) := Lib.hid (HB1.out.trans (hbel.mono HB1.out.size))
      have k3 := (hbel.cell (p := ⟨w.heap.size, 0, none⟩) (by simp; omega)).trans k0
      have hz := hbel.size
      have hzw : w.heap.size < wr.heap.size := by omega
      have HBx := Lib.hid hbel
      have hbn' := hseg.1
      have hab' := hseg.2.1
      clear hbel
      by_cases hlt : L < rs.length
      · have HSeg := Lib.hid (hseg.down (y.testBit (rs.length - 1 - L)))
        have hbd := bits_down y rs.length L hlt
        have HLf := Lib.hid (ltW_false n (rowsW rs) (fun j => decide (a ≤ j ∧ j < b)) L (y / 2 ^ (rs.length - L)))
        have HLt := Lib.hid (ltW_true hseg)
        have hnb := HNb.out L (y / 2 ^ (rs.length - L))
        obtain ⟨q, hq⟩ : ∃ q, rs.length = L + 1 + q := ⟨rs.length - (L + 1), by omega⟩
        have hqi : (rs.length : Int) - 1 - (L : Int) = (q : Int) := by omega
        have hbt := HBit.out q
        rw [show rs.length - 1 - L = q from by omega] at HSeg hbd
        rw [← hbd] at HSeg
        obtain ⟨_, bb, off, rfl, hbb, hrows⟩ := rows_at HI.out (by omega)
        obtain ⟨sv, c0, c1, hln64, hws⟩ := hrows L hlt
        obtain ⟨e1, hmk⟩ := HRow.out L hlt
        rw [← rowsW_at] at hws
        rw [e1] at c0 hln64
        generalize (rowsW rs).getD L [] = ws at *
        have hws2 := hws
        obtain ⟨As, cs, rfl, _⟩ := hws2
        have d0 := (HBe.out.cell (p := ⟨bb, off + L * 2, none⟩) (by simp; omega)).trans c0
        have d1 := (HBe.out.cell (p := ⟨bb, off + L * 2 + 1, none⟩) (by simp; omega)).trans c1
        have HDn := Lib.hid fun one p (hp : p ≤ n) W (hW : Below w.heap.size w W) => waveDown_any (.agg #[.int .i64 n, .slice As ws.length cs]) n p ws one W B (Nat.le_trans hB hW.size) ⟨_, rfl, hln64, hws.below (hW.mono hB)⟩ hmk hp
        have hdm := dnW_mono ws n false hab'
        have hdl := dnW_le ws n false hbn'
        have HMn := Lib.hid fun one => dnW_mono ws n one hab'
        clear hrows c0 c1 hws hmk HI hq hseg
        have HBd := Lib.hid hbd
        clear hbd
        generalize ltW n (rowsW rs) (fun j => decide (a ≤ j ∧ j < b)) L (y / 2 ^ (rs.length - L)) = N at *
        have HBWr := Lib.hid (HBe.out.alloc (by omega) (.cells #[.int .i64 n, .slice As ws.length cs] 73))
        have p0r : (wr.alloc (.cells #[.int .i64 n, .slice As ws.length cs] 73)).cell? ⟨wr.heap.size, 0, none⟩ = some (.int .i64 n) := by simp
        have p1r : (wr.alloc (.cells #[.int .i64 n, .slice As ws.length cs] 73)).cell? ⟨wr.heap.size, 1, none⟩ = some (.slice As ws.length cs) := by simp
        cases hbb2 : y.testBit q
        · rw [hbb2] at HSeg hbt HBd
          simp only [Bool.false_eq_true, if_false, if_true] at hbt
          have HN : Hid (ltW n (rowsW rs) (fun j => decide (a ≤ j ∧ j < b)) (L + 1) (y / 2 ^ (rs.length - (L + 1))) = N) := Lib.hid (by rw [HBd.out]; exact HLf.out)
          clear HLf HLt
          go_wp2_with fail
          have HQx5 := Lib.hid fun d os => (HBWr.out.trans ((below_regrown (wr.alloc (.cells #[.int .i64 n, .slice As ws.length cs] 73)) d os).mono HBWr.out.size))
          have HDx5 := Lib.hid fun one p (hp : p ≤ n) d os => Calls.regrown_of (HDn.out one p hp (Sort.grow (redrawn (wr.alloc (.cells #[.int .i64 n, .slice As ws.length cs] 73)) d) os) (HQx5.out d os))
          have q0 := fun d os => cell_regrown p0r d os
          have q1 := fun d os => cell_regrown p1r d os
          refine wp_region_quiet_below (by kernel_rfl) (by kernel_rfl) ?_
          repeat (quiet_step ((go_at_call 44; exact HDx5.out _ _ (by omega) _ _)))
          refine wpQuiet_nil ?_
          intro _ hw'
          obtain ⟨⟨dq, osq⟩, hw''⟩ := hw'
          subst hw''
          have HBWx5 := Lib.hid (HQx5.out dq osq)
          have HGrx5 := Lib.hid (below_regrown (wr.alloc (.cells #[.int .i64 n, .slice As ws.length cs] 73)) dq osq)
          have p0x5 := cell_regrown p0r dq osq
          have p1x5 := cell_regrown p1r dq osq
          generalize Sort.grow (redrawn (wr.alloc (.cells #[.int .i64 n, .slice As ws.length cs] 73)) dq) osq = wx5 at *
          clear q0 q1 HDx5 HQx5 p0r p1r
          go_wp2_with fail
          go_roundw
          case rel => exact ⟨L + 1, _, _, by omega, by go_num, rfl, rfl, by rw [HN.out], HSeg.out, HBx.out.trans (((Below.refl _ _).alloc (by omega) _).trans (HGrx5.out.mono (by simp; omega)))⟩
          case measure => simp [intOf]; omega
        · rw [hbb2] at HSeg hbt HBd
          simp only [Bool.false_eq_true, if_false, if_true] at hbt
          have HN : Hid (ltW n (rowsW rs) (fun j => decide (a ≤ j ∧ j < b)) (L + 1) (y / 2 ^ (rs.length - (L + 1))) = N + (dnW ws n false b' - dnW ws n false a')) := Lib.hid (by rw [HBd.out]; exact HLt.out)
          clear HLf HLt
          have wr1 : IntKind.i64.wrap (((dnW ws n false b' : Nat) : Int) - ((dnW ws n false a' : Nat) : Int)) = ((dnW ws n false b' : Nat) : Int) - ((dnW ws n false a' : Nat) : Int) := by rw [IntKind.wrap_i64]; omega
          have wr2 : IntKind.i64.wrap ((N : Int) + (((dnW ws n false b' : Nat) : Int) - ((dnW ws n false a' : Nat) : Int))) = (N : Int) + (((dnW ws n false b' : Nat) : Int) - ((dnW ws n false a' : Nat) : Int)) := by rw [IntKind.wrap_i64]; omega
          go_wp2_with fail
          have HQx5 := Lib.hid fun d os => (HBWr.out.trans ((below_regrown (wr.alloc (.cells #[.int .i64 n, .slice As ws.length cs] 73)) d os).mono HBWr.out.size))
          have HDx5 := Lib.hid fun one p (hp : p ≤ n) d os => Calls.regrown_of (HDn.out one p hp (Sort.grow (redrawn (wr.alloc (.cells #[.int .i64 n, .slice As ws.length cs] 73)) d) os) (HQx5.out d os))
          have q0 := fun d os => cell_regrown p0r d os
          have q1 := fun d os => cell_regrown p1r d os
          refine wp_region_quiet_below (by kernel_rfl) (by kernel_rfl) ?_
          repeat (quiet_step ((go_at_call 44; exact HDx5.out _ _ (by omega) _ _)))
          refine wpQuiet_nil ?_
          intro _ hw'
          obtain ⟨⟨dq, osq⟩, hw''⟩ := hw'
          subst hw''
          have HBWx5 := Lib.hid (HQx5.out dq osq)
          have HGrx5 := Lib.hid (below_regrown (wr.alloc (.cells #[.int .i64 n, .slice As ws.length cs] 73)) dq osq)
          have p0x5 := cell_regrown p0r dq osq
          have p1x5 := cell_regrown p1r dq osq
          generalize Sort.grow (redrawn (wr.alloc (.cells #[.int .i64 n, .slice As ws.length cs] 73)) dq) osq = wx5 at *
          clear q0 q1 HDx5 HQx5 p0r p1r
          go_wp2_with fail
          have HQx6 := Lib.hid fun d os => (HBWx5.out.trans ((below_regrown wx5 d os).mono HBWx5.out.size))
          have HDx6 := Lib.hid fun one p (hp : p ≤ n) d os => Calls.regrown_of (HDn.out one p hp (Sort.grow (redrawn wx5 d) os) (HQx6.out d os))
          have q0 := fun d os => cell_regrown p0x5 d os
          have q1 := fun d os => cell_regrown p1x5 d os
          refine wp_region_quiet_below (by kernel_rfl) (by kernel_rfl) ?_
          repeat (quiet_step ((go_at_call 44; exact HDx6.out _ _ (by omega) _ _)))
          refine wpQuiet_nil ?_
          intro _ hw'
          obtain ⟨⟨dq, osq⟩, hw''⟩ := hw'
          subst hw''
          have HBWx6 := Lib.hid (HQx6.out dq osq)
          have HGrx6 := Lib.hid (below_regrown wx5 dq osq)
          have p0x6 := cell_regrown p0x5 dq osq
          have p1x6 := cell_regrown p1x5 dq osq
          generalize Sort.grow (redrawn wx5 dq) osq = wx6 at *
          clear q0 q1 HDx6 HQx6 p0x5 p1x5
          go_wp2_with fail
          go_roundw
          case rel => exact ⟨L + 1, _, _, by omega, by go_num, rfl, rfl, vint (by rw [HN.out]; omega), HSeg.out, HBx.out.trans (((Below.refl _ _).alloc (by omega) _).trans (((HGrx5.out.trans (HGrx6.out.mono HGrx5.out.size))).mono (by simp; omega)))⟩
          case measure => simp [intOf]; omega
      · obtain rfl : L = rs.length := by omega
        rw [Nat.sub_self, Nat.pow_zero, Nat.div_one, HEnd.out.symm]
        clear hseg
        go_wp2_with fail
        go_ret
        exact ⟨rfl, HBe.out⟩
  · have HF := Lib.hid (HFit.out false (.inr ⟨y, rfl, by omega, (decide_eq_false hy2).symm⟩) _ HA.out)
    have hbig : ∀ j, ((valW n (rowsW rs) rs.length j : Nat) : Int) < (y : Int) := fun j => by
      have h1 := valW_lt n (rowsW rs) j rs.length
      have h2 : 2 ^ rs.length ≤ y := by
        rcases Nat.lt_or_ge y (2 ^ rs.length) with h | h
        · exact absurd (Nat.div_eq_of_lt h) hy2
        · exact h
      omega
    have HE : Hid ((((sW rs n a b).countP (fun z => decide (z < (y : Int))) : Nat) : Int) = (b : Int) - (a : Int)) := Lib.hid (by rw [sW_all rs hab hbn hbig]; omega)
    rw [HE.out]
    clear hmw HFit hrow hln hln' hn0 hy2 hbig HI
    go_enter Try.func72, Try.ntmps72
    go_wp2_with (go_at_call 86; refine (HF.out).mono ?_; rintro e w1 ⟨rfl, hb⟩)
    go_ret
    exact ⟨rfl, below_box hb⟩
end Go.Proofs.Ytdmfhpigchbcbaa
