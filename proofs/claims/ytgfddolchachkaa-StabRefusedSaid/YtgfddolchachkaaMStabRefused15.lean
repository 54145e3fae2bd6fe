/-
  Contract of the library's symMergeCmpFunc and stableCmpFunc (package slices) at ints, at whatever length: the row is permuted and sorted by a strict order with which the comparing function agrees. Conditions: the comparing function compares, and may draw and lay blocks; it tells a strict order where a later element is tested against an earlier one.
-/
import Derived.Test.YtgfddolchachkaaMStabRefused14
import Derived.Test.YtgfddolchachkaaShelfF
namespace Go.Proofs.Ytgfddolchachkaa
open Go Go.RowKit Go.Shelf Go.Lib Go.Sort Go.Proofs Go.Dam.Stable
set_option linter.unusedVariables false
variable {α : Type} [Inhabited α] {enc : α → Value} {w0 : World} {blk off : Nat} {d0 : Array α} {cf : α → α → Int} {g : Nat} {cb : Array Value} {T : α → α → Prop}
theorem cMergeAny (tr : ∀ x y z, T x y → T y z → T x z) (eg : ∀ args w, (callFunc g args).run Try.prog w = .ok (.enter g args) w) (R : Row1 enc w0 blk off d0) (hcmp : CmpLays1 Try.prog g cb enc cf blk off d0.size w0) {sz cap : Nat} (hz0 : d0.size = sz) (hsm : sz < 1099511627776) : ∀ (n a m b : Nat), b - a = n → CMerges enc w0 blk off sz cap g cb cf T a m b := by
  intro n
  induction n using Nat.strongRecOn with
  | _ n ih =>
    intro a m b hn d w hz S ham hmb hb h1 h2 h3
    by_cases c1 : m ≤ a + 1
    · exact cMergeLeft tr eg R hcmp hz0 hsm hz S a m b c1 (by omega) hmb hb h2 h3
    · by_cases c2 : b ≤ m + 1
      · exact cMergeRight tr eg R hcmp hz0 hsm hz S a m b (by omega) c2 (by omega) hb h1 h3
      · by_cases c3 : (a + b) / 2 < m
        · exact cMergeMid tr eg R hcmp hz0 hsm hz S a m b (fun a' m' b' h => ih (b' - a') (by omega) a' m' b' rfl) (by omega) (by omega) hb h1 h2 h3 ((a + b) / 2) ((a + b) / 2 + m - b) ((a + b) / 2) (by omega) (by omega) (.inl ⟨by simpa using c3, c3, by omega, by omega, by omega, by omega⟩)
        · exact cMergeMid tr eg R hcmp hz0 hsm hz S a m b (fun a' m' b' h => ih (b' - a') (by omega) a' m' b' rfl) (by omega) (by omega) hb h1 h2 h3 ((a + b) / 2) a m (by omega) (by omega) (.inr ⟨by simpa using c3, by omega, by omega, by omega, by omega, by omega⟩)
theorem cInsertion (tr : ∀ x y z, T x y → T y z → T x z) (eg : ∀ args w, (callFunc g args).run Try.prog w = .ok (.enter g args) w) (R : Row1 enc w0 blk off d0) (hcmp : CmpLays1 Try.prog g cb enc cf blk off d0.size w0) {sz cap : Nat} (hz0 : d0.size = sz) (hsm : sz < 1099511627776) {d : Array α} {w : World} (hz : d.size = sz) (S : SW enc w0 blk off d w)
    (a b : Nat) (hab : a ≤ b) (hb : b ≤ sz) (ht : Tst0 T (ltOf cf) (G d) a b) :
    Calls Try.prog 166 #[.slice (some ⟨blk, off, none⟩) sz cap, .int .i64 a, .int .i64 b, .func (.func g) #[] cb] w (CLeaves enc w0 blk off sz fun d' => PermIn a b d d' ∧ Srt T (G d') a b) := by
  have L : SlLaysF.n20 Try.prog Try.sortF_ren := { Try.sortF with }
  subst hz
  have h := Any.insertionSortCmpFunc_s L enc cf g cb blk off cap a b d0 d w0 w eg hcmp R hz0 S hab hb (by omega)
  change Calls Try.prog 166 _ _ _ at h
  refine h.mono ?_
  rintro e w' ⟨rfl, hw⟩
  have hs := ins_sort tr ht hab hb
  exact ⟨rfl, _, hs, hs.1.1, hw⟩
set_option maxHeartbeats 8000000 in
set_option maxRecDepth 100000 in
theorem cStable (tr : ∀ x y z, T x y → T y z → T x z) (eg : ∀ args w, (callFunc g args).run Try.prog w = .ok (.enter g args) w) (R : Row1 enc w0 blk off d0) (hcmp : CmpLays1 Try.prog g cb enc cf blk off d0.size w0) {sz cap : Nat} (hz0 : d0.size = sz) (hsm : sz < 1099511627776) {d : Array α} {w : World} (hz : d.size = sz) (S : SW enc w0 blk off d w)
    (ht : Tst0 T (ltOf cf) (G d) 0 sz) :
    Calls Try.prog 145 #[.slice (some ⟨blk, off, none⟩) sz cap, .int .i64 sz, .func (.func g) #[] cb] w (CLeaves enc w0 blk off sz fun d' => PermIn 0 sz d d' ∧ Srt T (G d') 0 sz) := by
  have S0 := Lib.hid S
  have HZ := Lib.hid hz
  have HT := Lib.hid ht
  have HIns := Lib.hid fun (d : Array α) (w : World) hz S (a b : Nat) h1 h2 h3 => cInsertion (T := T) (cap := cap) tr eg R hcmp hz0 hsm (d := d) (w := w) hz S a b h1 h2 h3
  have HMrg := Lib.hid fun (a m b : Nat) => cMergeAny (T := T) (cap := cap) tr eg R hcmp hz0 hsm (b - a) a m b rfl
  clear S hz ht tr hcmp
  go_enter Try.func145, Try.ntmps145
  go_wp2
  go_loopw [7, 8] (fun av bv wr => ∃ (x : Nat) (dk : Array α), av = .int .i64 x ∧ bv = .int .i64 (x + 20 : Nat) ∧ Hid (Pass1 T d dk 20 sz x ∧ SW enc w0 blk off dk wr)) (fun av _ _ => sz - (intOf av).toNat)
  case atStart => exact ⟨0, d, rfl, rfl, Lib.hid ⟨Pass1.start d 20 sz, S0.out⟩⟩
  case round =>
    obtain ⟨x, dk, rfl, rfl, HK⟩ := hrel
    have hxn := HK.out.1.2.2.1
    have HSZ : Hid (dk.size = sz) := Lib.hid (by rw [HK.out.1.1.1]; exact HZ.out)
    have HTS : Hid (Tst0 T (ltOf cf) (G dk) x sz) := Lib.hid fun p q g1 g2 g3 => by
      rw [HK.out.1.2.2.2.2 p g1, HK.out.1.2.2.2.2 q (by omega)]; exact HT.out p q (by omega) g2 g3
    by_cases hle : x + 20 ≤ sz
    · have hc := HIns.out dk wr HSZ.out HK.out.2 x (x + 20) (by omega) (by omega) (HTS.out.sub (Nat.le_refl _) hle)
      rw [show (((x + 20 : Nat) : Int)) = (x : Int) + 20 from by omega] at *
      go_wp2_with (go_at_call 166; refine hc.mono ?_; rintro e w' ⟨rfl, d2, h2⟩; have H2 := Lib.hid h2; clear h2)
      go_roundw
      case rel => exact ⟨x + 20, d2, by go_num, by go_num, Lib.hid ⟨HK.out.1.next hle (by rw [HZ.out]; exact Nat.le_refl _) H2.out.1.1 H2.out.1.2, H2.out.2.2⟩⟩
      case measure => simp [intOf]; omega
    · have hc := HIns.out dk wr HSZ.out HK.out.2 x sz (by omega) (by omega) HTS.out
      go_wp2_with (go_at_call 166; refine hc.mono ?_; rintro e w' ⟨rfl, d2, h2⟩; have H2 := Lib.hid (And.intro (HK.out.1.last (by omega) (by rw [HZ.out]; exact Nat.le_refl _) h2.1.1 h2.1.2) h2.2.2); clear h2)
      clear hc HK HSZ HTS
      go_loopw [6, 7, 8, 9] (fun sv _ _ _ wr => ∃ (s : Nat) (dk : Array α), sv = .int .i64 s ∧ 0 < s ∧ s ≤ 2 * sz + 20 ∧ Hid (AllDone T d dk s sz ∧ SW enc w0 blk off dk wr)) (fun sv _ _ _ _ => 2 * sz + 20 - (intOf sv).toNat)
      case atStart => exact ⟨20, d2, rfl, by omega, by omega, H2⟩
      case round =>
        obtain ⟨s, dk, rfl, hs0, hsn, HA⟩ := hrel
        by_cases hlt : s < sz
        · obtain ⟨wo, rfl⟩ : ∃ wo : World, wo = wr := ⟨_, rfl⟩
          go_wp2
          go_loopw [7, 8] (fun av bv wr => ∃ (x : Nat) (dk : Array α), av = .int .i64 x ∧ bv = .int .i64 ((x : Int) + 2 * (s : Int)) ∧ Hid (Pass2 T d dk s sz x ∧ SW enc w0 blk off dk wr)) (fun av _ _ => sz - (intOf av).toNat)
          case atStart => exact ⟨0, dk, rfl, by congr 1 <;> omega, Lib.hid ⟨Pass2.start HA.out.1, HA.out.2⟩⟩
          case round =>
            obtain ⟨x, dk, rfl, rfl, HK⟩ := hrel
            have hxn := HK.out.1.2.2.1
            have HSZ : Hid (dk.size = sz) := Lib.hid (by rw [HK.out.1.1.1]; exact HZ.out)
            by_cases hle : x + 2 * s ≤ sz
            · have hc : Calls Try.prog 167 #[.slice (some ⟨blk, off, none⟩) sz cap, .int .i64 x, .int .i64 ((x : Int) + s), .int .i64 ((x : Int) + 2 * s), .func (.func g) #[] cb] wr (CLeaves enc w0 blk off sz fun d' => PermIn x (x + 2 * s) dk d' ∧ Srt T (G d') x (x + 2 * s)) := by
                obtain ⟨e1, e2⟩ := HK.out.1.two (by omega) hs0
                rw [show min (x + 2 * s) sz = x + 2 * s from by omega] at e2
                have := HMrg.out x (x + s) (x + 2 * s) dk wr HSZ.out HK.out.2 (by omega) (by omega) (by omega) e1.1 e2.1 (Done.tst HT.out e1 e2 (by omega))
                rw [show (((x + s : Nat) : Int)) = (x : Int) + s from by omega, show (((x + 2 * s : Nat) : Int)) = (x : Int) + 2 * s from by omega] at this
                exact this
              go_wp2_with (go_at_call 167; refine hc.mono ?_; rintro e w' ⟨rfl, d2, h2⟩; have H2 := Lib.hid h2; clear h2)
              go_roundw
              case rel => exact ⟨x + 2 * s, d2, by congr 1 <;> omega, by congr 1 <;> omega, Lib.hid ⟨HK.out.1.next hs0 hle (by rw [HZ.out]; exact Nat.le_refl _) H2.out.1.1 H2.out.1.2, H2.out.2.2⟩⟩
              case measure => simp [intOf]; omega
            · by_cases hm : x + s < sz
              · have hc : Calls Try.prog 167 #[.slice (some ⟨blk, off, none⟩) sz cap, .int .i64 x, .int .i64 ((x : Int) + s), .int .i64 sz, .func (.func g) #[] cb] wr (CLeaves enc w0 blk off sz fun d' => PermIn x sz dk d' ∧ Srt T (G d') x sz) := by
                  obtain ⟨e1, e2⟩ := HK.out.1.two hm hs0
                  rw [show min (x + 2 * s) sz = sz from by omega] at e2
                  have := HMrg.out x (x + s) sz dk wr HSZ.out HK.out.2 (by omega) (by omega) (by omega) e1.1 e2.1 (Done.tst HT.out e1 e2 (by omega))
                  rw [show (((x + s : Nat) : Int)) = (x : Int) + s from by omega] at this
                  exact this
                go_wp2_with (go_at_call 167; refine hc.mono ?_; rintro e w' ⟨rfl, d2, h2⟩; have H2 := Lib.hid (And.intro (HK.out.1.last hs0 (by omega) hm (by rw [HZ.out]; exact Nat.le_refl _) h2.1.1 h2.1.2) h2.2.2); clear h2)
                go_roundw
                case rel => exact ⟨2 * s, d2, by congr 1 <;> omega, by omega, by omega, H2⟩
                case measure => simp [intOf]; omega
              · have HP2 := Lib.hid (And.intro (HK.out.1.none_ hs0 (by omega) (by omega)) HK.out.2)
                go_wp2
                go_roundw
                case rel => exact ⟨2 * s, dk, by congr 1 <;> omega, by omega, by omega, HP2⟩
                case measure => simp [intOf]; omega
        · have HE := Lib.hid (HA.out.1.end_ (by omega))
          go_wp2
          go_end0
          exact ⟨rfl, dk, HE.out, by rw [HE.out.1.1]; exact HZ.out, HA.out.2⟩
/-- slices.SortStableFunc at a row of the call's own. -/
theorem cSortStable (tr : ∀ x y z, T x y → T y z → T x z) (eg : ∀ args w, (callFunc g args).run Try.prog w = .ok (.enter g args) w) (R : Row1 enc w0 blk off d0) (hcmp : CmpLays1 Try.prog g cb enc cf blk off d0.size w0) {sz cap : Nat} (hz0 : d0.size = sz) (hsm : sz < 1099511627776)
    (ht : Tst0 T (ltOf cf) (G d0) 0 sz) :
    Calls Try.prog 107 #[.slice (some ⟨blk, off, none⟩) sz cap, .func (.func g) #[] cb] w0 (CLeaves enc w0 blk off sz fun d' => PermIn 0 sz d0 d' ∧ Srt T (G d') 0 sz) := by
  have hc := cStable (cap := cap) tr eg R hcmp hz0 hsm hz0 (SW.start R.hH) ht
  clear ht tr hcmp
  go_enter Try.func107, Try.ntmps107
  go_wp2_with (go_at_call 145; refine hc.mono ?_; rintro e w' ⟨rfl, d2, h2⟩; have H2 := Lib.hid h2; clear h2)
  go_end0
  exact ⟨rfl, d2, H2.out⟩
end Go.Proofs.Ytgfddolchachkaa
