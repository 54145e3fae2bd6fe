/-
  Contracts of the library's swapRangeCmpFunc and rotateCmpFunc (package slices) at ints, over worlds of the sort. Conditions: the row is the call's own; bounds on the places.
-/
import Derived.Test.YtgfddolchachkaaMStabRefused00
import Derived.Test.YtgfddolchachkaaProg
import Derived.Shelf.SlSortCmp.Insertion1
import Derived.Lib.Hide
namespace Go.Proofs.Ytgfddolchachkaa
open Go Go.RowKit Go.Shelf Go.Lib Go.Sort Go.Proofs Go.Dam.Stable
set_option linter.unusedVariables false
variable {α : Type} [Inhabited α] {enc : α → Value} {w0 : World} {blk off : Nat} {d0 : Array α}
/-- What a part of the sort leaves. -/
def CLeaves (enc : α → Value) (w0 : World) (blk off sz : Nat) (R : Array α → Prop) (e : Ending) (w' : World) : Prop := e = .returned (.tuple #[]) ∧ ∃ d', R d' ∧ d'.size = sz ∧ SW enc w0 blk off d' w'
set_option maxHeartbeats 1600000 in
set_option maxRecDepth 100000 in
theorem cSwapRange (R : Row1 enc w0 blk off d0) {sz cap : Nat} (hz0 : d0.size = sz) (hsm : sz < 1099511627776) (f : Value) {d : Array α} {w : World} (hz : d.size = sz) (S : SW enc w0 blk off d w) (a b n : Nat) (hab : a + n ≤ b) (hb : b + n ≤ sz) :
    Calls Try.prog 209 #[.slice (some ⟨blk, off, none⟩) sz cap, .int .i64 a, .int .i64 b, .int .i64 n, f] w (CLeaves enc w0 blk off sz fun d' => PermIn a (b + n) d d' ∧ ∀ k, G d' k = G d (srI a b n k)) := by
  have mixed : Try.prog.follows Departure.mixedOrders = true := by kernel_rfl
  have S0 := Lib.hid S
  have HZ := Lib.hid hz
  clear S hz
  go_enter Try.func209, Try.ntmps209
  go_wp2
  go_loopw [10] (fun iv wr => ∃ (i : Nat) (dk : Array α), iv = .int .i64 i ∧ i ≤ n ∧ Hid (dk.size = sz ∧ PermIn a (b + n) d dk ∧ (∀ k, G dk k = G d (srI a b i k)) ∧ SW enc w0 blk off dk wr)) (fun iv _ => n - (intOf iv).toNat)
  case atStart => exact ⟨0, d, rfl, by omega, Lib.hid ⟨HZ.out, permIn_refl _ _ _, fun k => by rw [srI_0], S0.out⟩⟩
  case round =>
    obtain ⟨i, dk, rfl, hi, HK⟩ := hrel
    by_cases hlt : i < n
    · obtain ⟨hsz, -, -, S2⟩ := HK.out
      obtain ⟨iN, hiN⟩ : ∃ q, q = a + i := ⟨_, rfl⟩
      obtain ⟨jN, hjN⟩ : ∃ q, q = b + i := ⟨_, rfl⟩
      have ea : ((a : Int) + (i : Int)).toNat = iN := by omega
      have pa : (0 : Int) ≤ (a : Int) + (i : Int) := by omega
      have ba : (a : Int) + (i : Int) < (sz : Int) := by omega
      have ra : IntKind.i64.wrap ((a : Int) + (i : Int)) = (a : Int) + (i : Int) := by rw [IntKind.wrap_i64]; omega
      have ec : ((b : Int) + (i : Int)).toNat = jN := by omega
      have pc : (0 : Int) ≤ (b : Int) + (i : Int) := by omega
      have bc : (b : Int) + (i : Int) < (sz : Int) := by omega
      have rc : IntKind.i64.wrap ((b : Int) + (i : Int)) = (b : Int) + (i : Int) := by rw [IntKind.wrap_i64]; omega
      obtain ⟨x, hx⟩ : ∃ x, x = dk[iN]! := ⟨_, rfl⟩
      obtain ⟨y, hy⟩ : ∃ x, x = dk[jN]! := ⟨_, rfl⟩
      have S3 : Hid (SW enc w0 blk off (swp dk iN jN) ((wr.setCell ⟨blk, off + iN, none⟩ (enc y)).setCell ⟨blk, off + jN, none⟩ (enc x)).drew) := Lib.hid (by rw [hx, hy]; exact S2.swapped R iN jN (by omega) (by omega))
      have c1 := S2.c1 R (by omega) iN (by omega)
      have c2 := S2.c1 R (by omega) jN (by omega)
      have f1 := S2.f1 R (by omega) iN (by omega)
      have f2 := S2.f1 R (by omega) jN (by omega)
      obtain ⟨u, c3⟩ := S2.c2 R (by omega) iN jN (by omega) (by omega) (enc y)
      rw [← hx] at c1
      rw [← hy] at c2
      have HI := Lib.hid hiN
      have HJ := Lib.hid hjN
      have hst := R.hO.store Try.prog
      have hcl0 := R.hO.cells
      simp only [Value.cells] at hcl0
      clear S2 hsz hx hy hiN hjN
      go_wp2_with fail
      go_big_region_o
      clear c1 c2 c3 f1 f2
      generalize ((wr.setCell ⟨blk, off + iN, none⟩ (enc y)).setCell ⟨blk, off + jN, none⟩ (enc x)).drew = w3 at S3 ⊢
      clear ea ec
      go_wp2
      go_roundw
      case rel =>
        obtain ⟨hsz, hperm, hmap, hsw⟩ := HK.out
        have := HI.out
        have := HJ.out
        subst iN jN
        refine ⟨i + 1, swp dk (a + i) (b + i), by go_num, by omega, Lib.hid ⟨by rw [size_swp]; exact hsz, permIn_trans _ _ _ _ _ hperm (swp_permIn _ _ _ _ _ (by omega) (by omega) (by omega) (by omega) (by omega)), fun k => ?_, S3.out⟩⟩
        rw [swp_get' (by omega) (by omega), hmap, srI_step (by omega)]
      case measure => simp [intOf]; omega
    · obtain rfl : i = n := by omega
      go_wp2
      go_end0
      obtain ⟨hsz, hperm, hmap, hsw⟩ := HK.out
      exact ⟨rfl, dk, ⟨hperm, hmap⟩, hsz, hsw⟩
set_option maxHeartbeats 1600000 in
set_option maxRecDepth 100000 in
theorem cRotate (R : Row1 enc w0 blk off d0) {sz cap : Nat} (hz0 : d0.size = sz) (hsm : sz < 1099511627776) (f : Value) {d : Array α} {w : World} (hz : d.size = sz) (S : SW enc w0 blk off d w) (a m b : Nat) (ham : a < m) (hmb : m < b) (hb : b ≤ sz) :
    Calls Try.prog 197 #[.slice (some ⟨blk, off, none⟩) sz cap, .int .i64 a, .int .i64 m, .int .i64 b, f] w (CLeaves enc w0 blk off sz fun d' => PermIn a b d d' ∧ ∀ k, G d' k = G d (rotI a m b k)) := by
  have S0 := Lib.hid S
  have HZ := Lib.hid hz
  have HSw := Lib.hid fun (d : Array α) (w : World) hz S (a b n : Nat) h1 h2 => cSwapRange R (cap := cap) hz0 hsm f (d := d) (w := w) hz S a b n h1 h2
  clear S hz
  go_enter Try.func197, Try.ntmps197
  go_wp2
  go_loopw [10, 11] (fun iv jv wr => ∃ (i j : Nat) (dk : Array α), iv = .int .i64 i ∧ jv = .int .i64 j ∧ 0 < i ∧ 0 < j ∧ a + i ≤ m ∧ m + j ≤ b ∧ Hid (dk.size = sz ∧ PermIn a b d dk ∧ (∀ k, G d (rotI a m b k) = G dk (rotI (m - i) m (m + j) k)) ∧ SW enc w0 blk off dk wr)) (fun iv jv _ => (intOf iv).toNat + (intOf jv).toNat)
  case atStart => exact ⟨m - a, b - m, d, by congr 1; omega, by congr 1; omega, by omega, by omega, by omega, by omega, Lib.hid ⟨HZ.out, permIn_refl _ _ _, fun k => by rw [show m - (m - a) = a from by omega, show m + (b - m) = b from by omega], S0.out⟩⟩
  case round =>
    obtain ⟨i, j, dk, rfl, rfl, hi, hj, hia, hjb, HK⟩ := hrel
    rcases Nat.lt_trichotomy i j with hlt | heq | hgt
    · have hc := HSw.out dk wr HK.out.1 HK.out.2.2.2 (m - i) (m + j - i) i (by omega) (by omega)
      rw [show (((m - i : Nat) : Int)) = (m : Int) - i from by omega, show (((m + j - i : Nat) : Int)) = (m : Int) + j - i from by omega] at hc
      have t1 : ((i : Int) != (j : Int)) = true := by simp; omega
      go_wp2_with (go_at_call 209; refine hc.mono ?_; rintro e w' ⟨rfl, d2, h2⟩; have H2 := Lib.hid h2; clear h2)
      go_roundw
      case rel =>
        obtain ⟨hsz, hperm, hmap, hsw⟩ := HK.out
        obtain ⟨⟨hp2, hm2⟩, hz2, hs2⟩ := H2.out
        refine ⟨i, j - i, d2, rfl, by congr 1; omega, by omega, by omega, by omega, by omega, Lib.hid ⟨hz2, permIn_trans _ _ _ _ _ hperm (permIn_mono _ _ _ _ _ _ (by omega) (by omega) (by omega) hp2), fun k => ?_, hs2⟩⟩
        rw [hmap, rot_lt (by omega) hlt hi, hm2]
      case measure => simp [intOf]; omega
    · subst heq
      have hc := HSw.out dk wr HK.out.1 HK.out.2.2.2 (m - i) m i (by omega) (by omega)
      rw [show (((m - i : Nat) : Int)) = (m : Int) - i from by omega] at hc
      go_wp2_with (go_at_call 209; refine hc.mono ?_; rintro e w' ⟨rfl, d2, h2⟩; have H2 := Lib.hid h2; clear h2)
      go_end0
      obtain ⟨hsz, hperm, hmap, hsw⟩ := HK.out
      obtain ⟨⟨hp2, hm2⟩, hz2, hs2⟩ := H2.out
      refine ⟨rfl, d2, ⟨permIn_trans _ _ _ _ _ hperm (permIn_mono _ _ _ _ _ _ (by omega) (by omega) (by omega) hp2), fun k => ?_⟩, hz2, hs2⟩
      rw [hmap, rot_eq (by omega), hm2]
    · have hc := HSw.out dk wr HK.out.1 HK.out.2.2.2 (m - i) m j (by omega) (by omega)
      rw [show (((m - i : Nat) : Int)) = (m : Int) - i from by omega] at hc
      have t1 : ((i : Int) != (j : Int)) = true := by simp; omega
      go_wp2_with (go_at_call 209; refine hc.mono ?_; rintro e w' ⟨rfl, d2, h2⟩; have H2 := Lib.hid h2; clear h2)
      go_roundw
      case rel =>
        obtain ⟨hsz, hperm, hmap, hsw⟩ := HK.out
        obtain ⟨⟨hp2, hm2⟩, hz2, hs2⟩ := H2.out
        refine ⟨i - j, j, d2, by congr 1; omega, rfl, by omega, by omega, by omega, by omega, Lib.hid ⟨hz2, permIn_trans _ _ _ _ _ hperm (permIn_mono _ _ _ _ _ _ (by omega) (by omega) (by omega) hp2), fun k => ?_, hs2⟩⟩
        rw [hmap, rot_gt (by omega) hgt hj, hm2]
      case measure => simp [intOf]; omega
end Go.Proofs.Ytgfddolchachkaa
