/-
  Contract of the library's symMergeCmpFunc (package slices) at ints, where one of the two parts has one element. Conditions: the comparing function compares, and may draw and lay blocks; the parts are sorted.
-/
import Derived.Test.YtgfddolchachkaaMStabRefused12
namespace Go.Proofs.Ytgfddolchachkaa
open Go Go.RowKit Go.Shelf Go.Lib Go.Sort Go.Proofs Go.Dam.Stable
set_option linter.unusedVariables false
variable {α : Type} [Inhabited α] {enc : α → Value} {w0 : World} {blk off : Nat} {d0 : Array α} {cf : α → α → Int} {g : Nat} {cb : Array Value} {T : α → α → Prop}
set_option maxHeartbeats 3200000 in
set_option maxRecDepth 100000 in
theorem cMergeLeft (tr : ∀ x y z, T x y → T y z → T x z) (eg : ∀ args w, (callFunc g args).run Try.prog w = .ok (.enter g args) w) (R : Row1 enc w0 blk off d0) (hcmp : CmpLays1 Try.prog g cb enc cf blk off d0.size w0) {sz cap : Nat} (hz0 : d0.size = sz) (hsm : sz < 1099511627776) {d : Array α} {w : World} (hz : d.size = sz) (S : SW enc w0 blk off d w)
    (a m b : Nat) (hm1 : m ≤ a + 1) (hm2 : a + 1 ≤ m) (hmb : m < b) (hb : b ≤ sz) (hsr : Srt T (G d) m b) (hts : Tst T (ltOf cf) (G d) a m b) :
    Calls Try.prog 167 #[.slice (some ⟨blk, off, none⟩) sz cap, .int .i64 a, .int .i64 m, .int .i64 b, .func (.func g) #[] cb] w (CLeaves enc w0 blk off sz fun d' => PermIn a b d d' ∧ Srt T (G d') a b) := by
  have mixed : Try.prog.follows Departure.mixedOrders = true := by kernel_rfl
  have S0 := Lib.hid S
  have HZ := Lib.hid hz
  have HC := Lib.hid hcmp
  have HT := Lib.hid (And.intro tr (And.intro hsr hts))
  clear S hz hcmp hsr hts tr
  have tt : ((m : Int) - (a : Int) == 1) = true := by simp; omega
  go_enter Try.func167, Try.ntmps167
  go_wp2
  go_loopw [10, 11, 12] (fun iv jv _ wr => ∃ (i j : Nat), iv = .int .i64 i ∧ jv = .int .i64 j ∧ m ≤ i ∧ i ≤ j ∧ j ≤ b ∧ Hid ((i = m ∨ ltOf cf (G d (i - 1)) (G d a) = true) ∧ (j = b ∨ ltOf cf (G d j) (G d a) = false) ∧ SW enc w0 blk off d wr)) (fun iv jv _ _ => (intOf jv).toNat - (intOf iv).toNat)
  case atStart => exact ⟨m, b, rfl, rfl, by omega, by omega, by omega, Lib.hid ⟨.inl rfl, .inl rfl, S0.out⟩⟩
  case round =>
    obtain ⟨i, j, rfl, rfl, hai, hij, hjb, HK⟩ := hrel
    by_cases hlt : i < j
    · obtain ⟨hN, hhN⟩ : ∃ q, q = (i + j) / 2 := ⟨_, rfl⟩
      have hszd := HZ.out
      have pa : (0 : Int) ≤ (hN : Int) := by omega
      have ba : (hN : Int) < (sz : Int) := by omega
      have bc : (a : Int) < (sz : Int) := by omega
      obtain ⟨x, hx⟩ : ∃ x, x = d[hN]! := ⟨_, rfl⟩
      obtain ⟨y, hy⟩ : ∃ x, x = d[a]! := ⟨_, rfl⟩
      have l1 := HK.out.2.2.cl R (by omega) hN (by omega)
      have l2 := HK.out.2.2.cl R (by omega) a (by omega)
      rw [← hx] at l1
      rw [← hy] at l2
      have hc := HK.out.2.2.cmp HC.out (by omega) x y
      have HX : Hid (ltOf cf (G d hN) (G d a) = decide (cf x y < 0)) := Lib.hid (by rw [hx, hy]; rfl)
      have hb1 : hN < j := by omega
      have hb2 : i ≤ hN := by omega
      have zz : ((i : Int) + (j : Int)) / 2 = (hN : Int) := by omega
      cases hlv : decide (cf x y < 0) with
      | true =>
        have hv : cf x y < 0 := of_decide_eq_true hlv
        rw [hlv] at HX
        clear hx hy hhN hszd
        go_wp2_with fail
        go_quiet_grown (first | (go_at_fn g; refine Calls.grown_of (hc _ _)))
        have S2 : Hid (SW enc w0 blk off d (grow (wr.drewN nq) osq)) := Lib.hid (HK.out.2.2.grown nq osq)
        clear l1 l2 hc
        generalize grow (wr.drewN nq) osq = w2 at S2 ⊢
        clear nq osq
        go_wp2
        go_roundw
        case rel => exact ⟨hN + 1, j, by go_num, rfl, by omega, by omega, hjb, Lib.hid ⟨.inr (by rw [Nat.add_sub_cancel]; exact HX.out), HK.out.2.1, S2.out⟩⟩
        case measure => simp [intOf]; omega
      | false =>
        have hv : ¬ cf x y < 0 := of_decide_eq_false hlv
        rw [hlv] at HX
        clear hx hy hhN hszd
        go_wp2_with fail
        go_quiet_grown (first | (go_at_fn g; refine Calls.grown_of (hc _ _)))
        have S2 : Hid (SW enc w0 blk off d (grow (wr.drewN nq) osq)) := Lib.hid (HK.out.2.2.grown nq osq)
        clear l1 l2 hc
        generalize grow (wr.drewN nq) osq = w2 at S2 ⊢
        clear nq osq
        go_wp2
        go_roundw
        case rel => exact ⟨i, hN, rfl, rfl, by omega, by omega, by omega, Lib.hid ⟨HK.out.1, .inr HX.out, S2.out⟩⟩
        case measure => simp [intOf]; omega
    · obtain rfl : i = j := by omega
      obtain ⟨wo, rfl⟩ : ∃ wo : World, wo = wr := ⟨_, rfl⟩
      go_wp2
      go_loopw [13] (fun kv wr => ∃ (k : Nat) (dk : Array α), kv = .int .i64 k ∧ a ≤ k ∧ k + 1 ≤ i ∧ Hid (dk.size = sz ∧ PermIn a b d dk ∧ (∀ x, G dk x = G d (rotI a (a + 1) (k + 1) x)) ∧ SW enc w0 blk off dk wr)) (fun kv _ => i - (intOf kv).toNat)
      case atStart => exact ⟨a, d, rfl, by omega, by omega, Lib.hid ⟨HZ.out, permIn_refl _ _ _, fun k => by rw [rot_up_0], HK.out.2.2⟩⟩
      case round =>
        obtain ⟨k, dk, rfl, hak, hki, HL⟩ := hrel
        by_cases hlt2 : k + 1 < i
        · obtain ⟨hsz, -, -, S2⟩ := HL.out
          have pa : (0 : Int) ≤ (k : Int) := by omega
          have ba : (k : Int) < (sz : Int) := by omega
          obtain ⟨jN, hjN⟩ : ∃ q, q = k + 1 := ⟨_, rfl⟩
          have ec : ((k : Int) + 1).toNat = jN := by omega
          have pc : (0 : Int) ≤ (k : Int) + 1 := by omega
          have bc : (k : Int) + 1 < (sz : Int) := by omega
          have rc : IntKind.i64.wrap ((k : Int) + 1) = (k : Int) + 1 := by rw [IntKind.wrap_i64]; omega
          obtain ⟨x, hx⟩ : ∃ x, x = dk[k]! := ⟨_, rfl⟩
          obtain ⟨y, hy⟩ : ∃ x, x = dk[jN]! := ⟨_, rfl⟩
          have S3 : Hid (SW enc w0 blk off (swp dk k jN) ((wr.setCell ⟨blk, off + k, none⟩ (enc y)).setCell ⟨blk, off + jN, none⟩ (enc x)).drew) := Lib.hid (by rw [hx, hy]; exact S2.swapped R k jN (by omega) (by omega))
          have c1 := S2.c1 R (by omega) k (by omega)
          have c2 := S2.c1 R (by omega) jN (by omega)
          have f1 := S2.f1 R (by omega) k (by omega)
          have f2 := S2.f1 R (by omega) jN (by omega)
          obtain ⟨u, c3⟩ := S2.c2 R (by omega) k jN (by omega) (by omega) (enc y)
          rw [← hx] at c1
          rw [← hy] at c2
          have HJ := Lib.hid hjN
          have hst := R.hO.store Try.prog
          have hcl0 := R.hO.cells
          simp only [Value.cells] at hcl0
          clear S2 hsz hx hy hjN
          go_wp2_with fail
          go_big_region_o
          clear c1 c2 c3 f1 f2
          generalize ((wr.setCell ⟨blk, off + k, none⟩ (enc y)).setCell ⟨blk, off + jN, none⟩ (enc x)).drew = w3 at S3 ⊢
          clear ec
          go_wp2
          go_roundw
          case rel =>
            obtain ⟨hsz, hperm, hmap, hsw⟩ := HL.out
            have := HJ.out
            subst jN
            refine ⟨k + 1, swp dk k (k + 1), by go_num, by omega, by omega, Lib.hid ⟨by rw [size_swp]; exact hsz, permIn_trans _ _ _ _ _ hperm (swp_permIn _ _ _ _ _ (by omega) (by omega) (by omega) (by omega) (by omega)), fun x => ?_, S3.out⟩⟩
            rw [swp_get' (by omega) (by omega), hmap, rot_up (t := k + 1) (by omega)]; rfl
          case measure => simp [intOf]; omega
        · obtain rfl : i = k + 1 := by omega
          go_wp2
          go_end0
          obtain ⟨hsz, hperm, hmap, hsw⟩ := HL.out
          obtain ⟨tr, hsr, hts⟩ := HT.out
          obtain rfl : m = a + 1 := by omega
          exact ⟨rfl, dk, ⟨hperm, merge_left tr hsr hts (by omega) (by omega) HK.out.1 HK.out.2.1 hmap⟩, hsz, hsw⟩
set_option maxHeartbeats 3200000 in
set_option maxRecDepth 100000 in
theorem cMergeRight (tr : ∀ x y z, T x y → T y z → T x z) (eg : ∀ args w, (callFunc g args).run Try.prog w = .ok (.enter g args) w) (R : Row1 enc w0 blk off d0) (hcmp : CmpLays1 Try.prog g cb enc cf blk off d0.size w0) {sz cap : Nat} (hz0 : d0.size = sz) (hsm : sz < 1099511627776) {d : Array α} {w : World} (hz : d.size = sz) (S : SW enc w0 blk off d w)
    (a m b : Nat) (ham : a + 2 ≤ m) (hm1 : b ≤ m + 1) (hm2 : m + 1 ≤ b) (hb : b ≤ sz) (hsl : Srt T (G d) a m) (hts : Tst T (ltOf cf) (G d) a m b) :
    Calls Try.prog 167 #[.slice (some ⟨blk, off, none⟩) sz cap, .int .i64 a, .int .i64 m, .int .i64 b, .func (.func g) #[] cb] w (CLeaves enc w0 blk off sz fun d' => PermIn a b d d' ∧ Srt T (G d') a b) := by
  have mixed : Try.prog.follows Departure.mixedOrders = true := by kernel_rfl
  have S0 := Lib.hid S
  have HZ := Lib.hid hz
  have HC := Lib.hid hcmp
  have HT := Lib.hid (And.intro tr (And.intro hsl hts))
  clear S hz hcmp hsl hts tr
  have tt0 : ((m : Int) - (a : Int) == 1) = false := by rw [beq_eq_false_iff_ne]; omega
  have tt : ((b : Int) - (m : Int) == 1) = true := by simp; omega
  go_enter Try.func167, Try.ntmps167
  go_wp2
  go_loopw [14, 15, 16] (fun iv jv _ wr => ∃ (i j : Nat), iv = .int .i64 i ∧ jv = .int .i64 j ∧ a ≤ i ∧ i ≤ j ∧ j ≤ m ∧ Hid ((i = a ∨ ltOf cf (G d m) (G d (i - 1)) = false) ∧ (j = m ∨ ltOf cf (G d m) (G d j) = true) ∧ SW enc w0 blk off d wr)) (fun iv jv _ _ => (intOf jv).toNat - (intOf iv).toNat)
  case atStart => exact ⟨a, m, rfl, rfl, by omega, by omega, by omega, Lib.hid ⟨.inl rfl, .inl rfl, S0.out⟩⟩
  case round =>
    obtain ⟨i, j, rfl, rfl, hai, hij, hjb, HK⟩ := hrel
    by_cases hlt : i < j
    · obtain ⟨hN, hhN⟩ : ∃ q, q = (i + j) / 2 := ⟨_, rfl⟩
      have hszd := HZ.out
      have pa : (0 : Int) ≤ (hN : Int) := by omega
      have ba : (hN : Int) < (sz : Int) := by omega
      have bc : (m : Int) < (sz : Int) := by omega
      obtain ⟨x, hx⟩ : ∃ x, x = d[m]! := ⟨_, rfl⟩
      obtain ⟨y, hy⟩ : ∃ x, x = d[hN]! := ⟨_, rfl⟩
      have l1 := HK.out.2.2.cl R (by omega) m (by omega)
      have l2 := HK.out.2.2.cl R (by omega) hN (by omega)
      rw [← hx] at l1
      rw [← hy] at l2
      have hc := HK.out.2.2.cmp HC.out (by omega) x y
      have HX : Hid (ltOf cf (G d m) (G d hN) = decide (cf x y < 0)) := Lib.hid (by rw [hx, hy]; rfl)
      have hb1 : hN < j := by omega
      have hb2 : i ≤ hN := by omega
      have zz : ((i : Int) + (j : Int)) / 2 = (hN : Int) := by omega
      cases hlv : decide (cf x y < 0) with
      | true =>
        have hv : cf x y < 0 := of_decide_eq_true hlv
        rw [hlv] at HX
        clear hx hy hhN hszd
        go_wp2_with fail
        go_quiet_grown (first | (go_at_fn g; refine Calls.grown_of (hc _ _)))
        have S2 : Hid (SW enc w0 blk off d (grow (wr.drewN nq) osq)) := Lib.hid (HK.out.2.2.grown nq osq)
        clear l1 l2 hc
        generalize grow (wr.drewN nq) osq = w2 at S2 ⊢
        clear nq osq
        go_wp2
        go_roundw
        case rel => exact ⟨i, hN, rfl, rfl, by omega, by omega, by omega, Lib.hid ⟨HK.out.1, .inr HX.out, S2.out⟩⟩
        case measure => simp [intOf]; omega
      | false =>
        have hv : ¬ cf x y < 0 := of_decide_eq_false hlv
        rw [hlv] at HX
        clear hx hy hhN hszd
        go_wp2_with fail
        go_quiet_grown (first | (go_at_fn g; refine Calls.grown_of (hc _ _)))
        have S2 : Hid (SW enc w0 blk off d (grow (wr.drewN nq) osq)) := Lib.hid (HK.out.2.2.grown nq osq)
        clear l1 l2 hc
        generalize grow (wr.drewN nq) osq = w2 at S2 ⊢
        clear nq osq
        go_wp2
        go_roundw
        case rel => exact ⟨hN + 1, j, by go_num, rfl, by omega, by omega, hjb, Lib.hid ⟨.inr (by rw [Nat.add_sub_cancel]; exact HX.out), HK.out.2.1, S2.out⟩⟩
        case measure => simp [intOf]; omega
    · obtain rfl : i = j := by omega
      obtain ⟨wo, rfl⟩ : ∃ wo : World, wo = wr := ⟨_, rfl⟩
      go_wp2
      go_loopw [17] (fun kv wr => ∃ (k : Nat) (dk : Array α), kv = .int .i64 k ∧ i ≤ k ∧ k ≤ m ∧ Hid (dk.size = sz ∧ PermIn a b d dk ∧ (∀ x, G dk x = G d (rotI k m (m + 1) x)) ∧ SW enc w0 blk off dk wr)) (fun kv _ => (intOf kv).toNat)
      case atStart => exact ⟨m, d, rfl, by omega, by omega, Lib.hid ⟨HZ.out, permIn_refl _ _ _, fun k => by rw [rot_down_0], HK.out.2.2⟩⟩
      case round =>
        obtain ⟨k, dk, rfl, hak, hki, HL⟩ := hrel
        by_cases hlt2 : i < k
        · obtain ⟨hsz, -, -, S2⟩ := HL.out
          have pa : (0 : Int) ≤ (k : Int) := by omega
          have ba : (k : Int) < (sz : Int) := by omega
          obtain ⟨jN, hjN⟩ : ∃ q, q = k - 1 := ⟨_, rfl⟩
          have ec : ((k : Int) - 1).toNat = jN := by omega
          have pc : (0 : Int) ≤ (k : Int) - 1 := by omega
          have bc : (k : Int) - 1 < (sz : Int) := by omega
          have rc : IntKind.i64.wrap ((k : Int) - 1) = (k : Int) - 1 := by rw [IntKind.wrap_i64]; omega
          obtain ⟨x, hx⟩ : ∃ x, x = dk[k]! := ⟨_, rfl⟩
          obtain ⟨y, hy⟩ : ∃ x, x = dk[jN]! := ⟨_, rfl⟩
          have S3 : Hid (SW enc w0 blk off (swp dk k jN) ((wr.setCell ⟨blk, off + k, none⟩ (enc y)).setCell ⟨blk, off + jN, none⟩ (enc x)).drew) := Lib.hid (by rw [hx, hy]; exact S2.swapped R k jN (by omega) (by omega))
          have c1 := S2.c1 R (by omega) k (by omega)
          have c2 := S2.c1 R (by omega) jN (by omega)
          have f1 := S2.f1 R (by omega) k (by omega)
          have f2 := S2.f1 R (by omega) jN (by omega)
          obtain ⟨u, c3⟩ := S2.c2 R (by omega) k jN (by omega) (by omega) (enc y)
          rw [← hx] at c1
          rw [← hy] at c2
          have HJ := Lib.hid hjN
          have hst := R.hO.store Try.prog
          have hcl0 := R.hO.cells
          simp only [Value.cells] at hcl0
          clear S2 hsz hx hy hjN
          go_wp2_with fail
          go_big_region_o
          clear c1 c2 c3 f1 f2
          generalize ((wr.setCell ⟨blk, off + k, none⟩ (enc y)).setCell ⟨blk, off + jN, none⟩ (enc x)).drew = w3 at S3 ⊢
          clear ec
          go_wp2
          go_roundw
          case rel =>
            obtain ⟨hsz, hperm, hmap, hsw⟩ := HL.out
            have := HJ.out
            subst jN
            refine ⟨k - 1, swp dk k (k - 1), by congr 1; omega, by omega, by omega, Lib.hid ⟨by rw [size_swp]; exact hsz, permIn_trans _ _ _ _ _ hperm (swp_permIn _ _ _ _ _ (by omega) (by omega) (by omega) (by omega) (by omega)), fun x => ?_, S3.out⟩⟩
            rw [swp_get' (by omega) (by omega), hmap, rot_down (by omega) hki]
          case measure => simp [intOf]; omega
        · obtain rfl : i = k := by omega
          go_wp2
          go_end0
          obtain ⟨hsz, hperm, hmap, hsw⟩ := HL.out
          obtain ⟨tr, hsl, hts⟩ := HT.out
          obtain rfl : b = m + 1 := by omega
          exact ⟨rfl, dk, ⟨hperm, merge_right tr hsl hts (by omega) (by omega) HK.out.1 HK.out.2.1 hmap⟩, hsz, hsw⟩
end Go.Proofs.Ytgfddolchachkaa
