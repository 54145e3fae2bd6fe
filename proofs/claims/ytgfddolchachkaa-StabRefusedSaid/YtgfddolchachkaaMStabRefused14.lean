/-
  Contract of the library's symMergeCmpFunc (package slices) at ints, where both parts have more than one element. Conditions: the comparing function compares, and may draw and lay blocks; the parts are sorted; shorter parts are merged.
-/
import Derived.Test.YtgfddolchachkaaMStabRefused13
import Derived.Deep.RegionWith
namespace Go.Proofs.Ytgfddolchachkaa
open Go Go.RowKit Go.Shelf Go.Lib Go.Sort Go.Proofs Go.Dam.Stable
set_option linter.unusedVariables false
variable {α : Type} [Inhabited α] {enc : α → Value} {w0 : World} {blk off : Nat} {d0 : Array α} {cf : α → α → Int} {g : Nat} {cb : Array Value} {T : α → α → Prop}
/-- What symMergeCmpFunc does. -/
def CMerges (enc : α → Value) (w0 : World) (blk off sz cap g : Nat) (cb : Array Value) (cf : α → α → Int) (T : α → α → Prop) (a m b : Nat) : Prop :=
  ∀ (d : Array α) (w : World), d.size = sz → SW enc w0 blk off d w → a < m → m < b → b ≤ sz → Srt T (G d) a m → Srt T (G d) m b → Tst T (ltOf cf) (G d) a m b →
    Calls Try.prog 167 #[.slice (some ⟨blk, off, none⟩) sz cap, .int .i64 a, .int .i64 m, .int .i64 b, .func (.func g) #[] cb] w (CLeaves enc w0 blk off sz fun d' => PermIn a b d d' ∧ Srt T (G d') a b)
/-- The two halves behind the turn: each of them two sorted parts that can be merged. -/
def CHalves (enc : α → Value) (w0 : World) (blk off sz : Nat) (T : α → α → Prop) (lt : α → α → Bool) (a st md e b : Nat) (d d2 : Array α) (w2 : World) : Prop :=
  PermIn a b d d2 ∧ d2.size = sz ∧ SW enc w0 blk off d2 w2 ∧ Sep T (G d2) a md b ∧ Srt T (G d2) a st ∧ Srt T (G d2) st md ∧ Srt T (G d2) md e ∧ Srt T (G d2) e b ∧ Tst T lt (G d2) a st md ∧ Tst T lt (G d2) md e b
/-- The left half is sorted. -/
def CHalfL (enc : α → Value) (w0 : World) (blk off sz : Nat) (T : α → α → Prop) (lt : α → α → Bool) (a md e b : Nat) (d d2 : Array α) (w2 : World) : Prop :=
  PermIn a b d d2 ∧ d2.size = sz ∧ SW enc w0 blk off d2 w2 ∧ Sep T (G d2) a md b ∧ Srt T (G d2) a md ∧ Srt T (G d2) md e ∧ Srt T (G d2) e b ∧ Tst T lt (G d2) md e b
/-- Both halves are sorted. -/
def CHalfR (enc : α → Value) (w0 : World) (blk off sz : Nat) (T : α → α → Prop) (a b : Nat) (d d2 : Array α) (w2 : World) : Prop :=
  PermIn a b d d2 ∧ d2.size = sz ∧ SW enc w0 blk off d2 w2 ∧ Srt T (G d2) a b
section
variable {sz a st md e b : Nat} {d d2 d3 : Array α} {w2 w3 : World} {lt : α → α → Bool}
theorem CHalves.skip (h : CHalves enc w0 blk off sz T lt a st md e b d d2 w2) (hn : ¬ (a < st ∧ st < md)) (h1 : a ≤ st) (h2 : st ≤ md) : CHalfL enc w0 blk off sz T lt a md e b d d2 w2 := by
  obtain ⟨p1, p2, p3, p4, p5, p6, p7, p8, p9, p10⟩ := h
  refine ⟨p1, p2, p3, p4, ?_, p7, p8, p10⟩
  rcases (show st = a ∨ st = md from by omega) with rfl | rfl
  · exact p6
  · exact p5
theorem CHalfL.skip (h : CHalfL enc w0 blk off sz T lt a md e b d d2 w2) (hn : ¬ (md < e ∧ e < b)) (h1 : md ≤ e) (h2 : e ≤ b) : CHalfR enc w0 blk off sz T a b d d2 w2 := by
  obtain ⟨p1, p2, p3, p4, p5, p6, p7, p8⟩ := h
  refine ⟨p1, p2, p3, p5.join ?_ p4⟩
  rcases (show e = md ∨ e = b from by omega) with rfl | rfl
  · exact p7
  · exact p6
theorem CHalves.left (h : CHalves enc w0 blk off sz T lt a st md e b d d2 w2) (hb : b ≤ sz) (h4 : md ≤ b) (hp : PermIn a md d2 d3) (hs : d3.size = sz) (hw : SW enc w0 blk off d3 w3) (hsr : Srt T (G d3) a md) (h5 : md ≤ e) : CHalfL enc w0 blk off sz T lt a md e b d d3 w3 := by
  obtain ⟨p1, p2, p3, p4, p5, p6, p7, p8, p9, p10⟩ := h
  have hm := PermIn_mix (by omega) hp
  have far : ∀ k, md ≤ k → G d3 k = G d2 k := fun k hk => hm.2 k (by omega)
  refine ⟨permIn_trans _ _ _ _ _ p1 (permIn_mono _ _ _ _ _ _ (Nat.le_refl _) h4 (by omega) hp), by omega, hw, p4.mixL hm, hsr, p7.keep hm (.inr (Nat.le_refl _)), p8.keep hm (.inr h5), fun i j g1 g2 g3 g4 => ?_⟩
  rw [far i g1, far j (by omega)]
  exact p10 i j g1 g2 g3 g4
theorem CHalfL.right (h : CHalfL enc w0 blk off sz T lt a md e b d d2 w2) (hb : b ≤ sz) (h3 : a ≤ md) (hp : PermIn md b d2 d3) (hs : d3.size = sz) (hw : SW enc w0 blk off d3 w3) (hsr : Srt T (G d3) md b) : CHalfR enc w0 blk off sz T a b d d3 w3 := by
  obtain ⟨p1, p2, p3, p4, p5, p6, p7, p8⟩ := h
  have hm := PermIn_mix (by omega) hp
  exact ⟨permIn_trans _ _ _ _ _ p1 (permIn_mono _ _ _ _ _ _ h3 (Nat.le_refl _) (by omega) hp), by omega, hw, (p5.keep hm (.inl (Nat.le_refl _))).join hsr (p4.mixR hm)⟩
end
set_option maxHeartbeats 8000000 in
set_option maxRecDepth 100000 in
theorem cMergeMid (tr : ∀ x y z, T x y → T y z → T x z) (eg : ∀ args w, (callFunc g args).run Try.prog w = .ok (.enter g args) w) (R : Row1 enc w0 blk off d0) (hcmp : CmpLays1 Try.prog g cb enc cf blk off d0.size w0) {sz cap : Nat} (hz0 : d0.size = sz) (hsm : sz < 1099511627776) {d : Array α} {w : World} (hz : d.size = sz) (S : SW enc w0 blk off d w)
    (a m b : Nat) (ih : ∀ a' m' b', b' - a' < b - a → CMerges enc w0 blk off sz cap g cb cf T a' m' b') (ham : a + 2 ≤ m) (hmb : m + 2 ≤ b) (hb : b ≤ sz) (hsl : Srt T (G d) a m) (hsr : Srt T (G d) m b) (hts : Tst T (ltOf cf) (G d) a m b) (md lo hi : Nat) (hmd1 : 2 * md ≤ a + b) (hmd2 : a + b ≤ 2 * md + 1)
    (hlh : (decide (md < m) = true ∧ md < m ∧ b + lo ≤ md + m ∧ md + m ≤ b + lo ∧ md ≤ hi ∧ hi ≤ md) ∨ (decide (md < m) = false ∧ m ≤ md ∧ a ≤ lo ∧ lo ≤ a ∧ m ≤ hi ∧ hi ≤ m)) :
    Calls Try.prog 167 #[.slice (some ⟨blk, off, none⟩) sz cap, .int .i64 a, .int .i64 m, .int .i64 b, .func (.func g) #[] cb] w (CLeaves enc w0 blk off sz fun d' => PermIn a b d d' ∧ Srt T (G d') a b) := by
  have mixed : Try.prog.follows Departure.mixedOrders = true := by kernel_rfl
  have S0 := Lib.hid S
  have HZ := Lib.hid hz
  have HC := Lib.hid hcmp
  have HT := Lib.hid (And.intro tr (And.intro hsl (And.intro hsr hts)))
  have HIH := Lib.hid ih
  have HRot := Lib.hid fun (d : Array α) (w : World) hz S (a m b : Nat) h1 h2 h3 => cRotate R (cap := cap) hz0 hsm (.func (.func g) #[] cb) (d := d) (w := w) hz S a m b h1 h2 h3
  clear S hz hcmp hsl hsr hts tr ih
  have tt0 : ((m : Int) - (a : Int) == 1) = false := by rw [beq_eq_false_iff_ne]; omega
  have tt1 : ((b : Int) - (m : Int) == 1) = false := by rw [beq_eq_false_iff_ne]; omega
  have emd : ((a : Int) + (b : Int)) / 2 = (md : Int) := by omega
  have h1 : a ≤ lo := by omega
  have h2 : md + m ≤ b + lo := by omega
  have h3 : hi ≤ md := by omega
  have h4 : hi ≤ m := by omega
  have h5 : lo ≤ hi := by omega
  have h6 : lo = a ∨ md + m = b + lo := by omega
  have h7 : hi = md ∨ hi = m := by omega
  have H6 := Lib.hid h6
  have H7 := Lib.hid h7
  clear h6 h7
  rcases hlh with ⟨tb, hbig, q1, q2, q3, q4⟩ | ⟨tb, hbig, q1, q2, q3, q4⟩
  all_goals
    go_enter Try.func167, Try.ntmps167
    go_wp2
    go_loopw [20, 21, 23] (fun sv rv _ wr => ∃ (st r : Nat), sv = .int .i64 st ∧ rv = .int .i64 r ∧ lo ≤ st ∧ st ≤ r ∧ r ≤ hi ∧ Hid ((st = lo ∨ ltOf cf (G d (md + m - st)) (G d (st - 1)) = false) ∧ (r = hi ∨ ltOf cf (G d (md + m - 1 - r)) (G d r) = true) ∧ SW enc w0 blk off d wr)) (fun sv rv _ _ => (intOf rv).toNat - (intOf sv).toNat)
    case atStart => exact ⟨lo, hi, by congr 1; omega, by congr 1; omega, by omega, h5, by omega, Lib.hid ⟨.inl rfl, .inl rfl, S0.out⟩⟩
    case round =>
      obtain ⟨st, r, rfl, rfl, hls, hsr, hrh, HK⟩ := hrel
      by_cases hlt : st < r
      · obtain ⟨hN, hhN⟩ : ∃ q, q = (st + r) / 2 := ⟨_, rfl⟩
        obtain ⟨pN, hpN⟩ : ∃ q, q = md + m - 1 - hN := ⟨_, rfl⟩
        have hszd := HZ.out
        have pa : (0 : Int) ≤ (hN : Int) := by omega
        have ba : (hN : Int) < (sz : Int) := by omega
        have zz : ((st : Int) + (r : Int)) / 2 = (hN : Int) := by omega
        have zp : (md : Int) + (m : Int) - 1 - (hN : Int) = (pN : Int) := by omega
        have pc : (0 : Int) ≤ (pN : Int) := by omega
        have bc : (pN : Int) < (sz : Int) := by omega
        have rc : IntKind.i64.wrap (pN : Int) = (pN : Int) := by rw [IntKind.wrap_i64]; omega
        obtain ⟨x, hx⟩ : ∃ x, x = d[pN]! := ⟨_, rfl⟩
        obtain ⟨y, hy⟩ : ∃ x, x = d[hN]! := ⟨_, rfl⟩
        have l1 := HK.out.2.2.cl R (by omega) pN (by omega)
        have l2 := HK.out.2.2.cl R (by omega) hN (by omega)
        rw [← hx] at l1
        rw [← hy] at l2
        have hc := HK.out.2.2.cmp HC.out (by omega) x y
        have HX : Hid (ltOf cf (G d pN) (G d hN) = decide (cf x y < 0)) := Lib.hid (by rw [hx, hy]; rfl)
        have hb1 : hN < r := by omega
        have hb2 : st ≤ hN := by omega
        have HP := Lib.hid hpN
        cases hlv : decide (cf x y < 0) with
        | true =>
          have hv : cf x y < 0 := of_decide_eq_true hlv
          rw [hlv] at HX
          clear hx hy hhN hszd hpN
          go_wp2_with fail
          go_quiet_grown (first | (go_at_fn g; refine Calls.grown_of (hc _ _)))
          have S2 : Hid (SW enc w0 blk off d (grow (wr.drewN nq) osq)) := Lib.hid (HK.out.2.2.grown nq osq)
          clear l1 l2 hc
          generalize grow (wr.drewN nq) osq = w2 at S2 ⊢
          clear nq osq
          go_wp2
          go_roundw
          case rel => exact ⟨st, hN, rfl, rfl, by omega, by omega, by omega, Lib.hid ⟨HK.out.1, .inr (by rw [← HP.out]; exact HX.out), S2.out⟩⟩
          case measure => simp [intOf]; omega
        | false =>
          have hv : ¬ cf x y < 0 := of_decide_eq_false hlv
          rw [hlv] at HX
          clear hx hy hhN hszd hpN
          go_wp2_with fail
          go_quiet_grown (first | (go_at_fn g; refine Calls.grown_of (hc _ _)))
          have S2 : Hid (SW enc w0 blk off d (grow (wr.drewN nq) osq)) := Lib.hid (HK.out.2.2.grown nq osq)
          clear l1 l2 hc
          generalize grow (wr.drewN nq) osq = w2 at S2 ⊢
          clear nq osq
          go_wp2
          go_roundw
          case rel => exact ⟨hN + 1, r, by go_num, rfl, by omega, by omega, hrh, Lib.hid ⟨.inr (by rw [show md + m - (hN + 1) = pN from by have := HP.out; omega, Nat.add_sub_cancel]; exact HX.out), HK.out.2.1, S2.out⟩⟩
          case measure => simp [intOf]; omega
      · obtain rfl : st = r := by omega
        obtain ⟨e, he1, he2⟩ : ∃ e, e + st ≤ md + m ∧ md + m ≤ e + st := ⟨md + m - st, by omega, by omega⟩
        have ee : (md : Int) + (m : Int) - (st : Int) = (e : Int) := by omega
        have hmdlt : a < md := by omega
        have hmdb : md < b := by omega
        have hae : md ≤ e := by omega
        have heb : e ≤ b := by omega
        have HMid : Hid (∀ d2, d2.size = sz → (∀ k, G d2 k = G d (rotI st m e k)) → ∀ w2, PermIn a b d d2 → SW enc w0 blk off d2 w2 → CHalves enc w0 blk off sz T (ltOf cf) a st md e b d d2 w2) := Lib.hid fun d2 hz2 hm2 w2 hp2 hs2 => by
          obtain rfl : e = md + m - st := by omega
          obtain ⟨tr, hsl, hsr, hts⟩ := HT.out
          obtain ⟨x1, x2, x3, x4, x5, x6, x7⟩ := merge_mid tr (G := G d2) (mid := md) (start := st) hsl hsr hts (by omega) (by omega) (by omega) (by omega) (by omega) (by omega) (by omega)
            (by rcases HK.out.1 with h | h
                · rcases H6.out with k | k
                  · exact .inl (by omega)
                  · exact .inr (.inl (by omega))
                · exact .inr (.inr h))
            (by rcases HK.out.2.1 with h | h
                · rcases H7.out with k | k
                  · exact .inl (by omega)
                  · exact .inr (.inl (by omega))
                · exact .inr (.inr h)) hm2
          exact ⟨hp2, hz2, hs2, x1, x2, x3, x4, x5, x6, x7⟩
        have HLeft : Hid (∀ d2 w2, Hid (CHalves enc w0 blk off sz T (ltOf cf) a st md e b d d2 w2) → a < st → st < md → Calls Try.prog 167 #[.slice (some ⟨blk, off, none⟩) sz cap, .int .i64 a, .int .i64 st, .int .i64 md, .func (.func g) #[] cb] w2 (CLeaves enc w0 blk off sz fun d' => PermIn a md d2 d' ∧ Srt T (G d') a md)) := Lib.hid fun d2 w2 h g1 g2 => by
          obtain ⟨p1, p2, p3, p4, p5, p6, p7, p8, p9, p10⟩ := h.out
          exact HIH.out a st md (by omega) d2 w2 p2 p3 g1 g2 (by omega) p5 p6 p9
        have HRight : Hid (∀ d2 w2, Hid (CHalfL enc w0 blk off sz T (ltOf cf) a md e b d d2 w2) → md < e → e < b → Calls Try.prog 167 #[.slice (some ⟨blk, off, none⟩) sz cap, .int .i64 md, .int .i64 e, .int .i64 b, .func (.func g) #[] cb] w2 (CLeaves enc w0 blk off sz fun d' => PermIn md b d2 d' ∧ Srt T (G d') md b)) := Lib.hid fun d2 w2 h g1 g2 => by
          obtain ⟨p1, p2, p3, p4, p5, p6, p7, p8⟩ := h.out
          exact HIH.out md e b (by omega) d2 w2 p2 p3 g1 g2 (by omega) p6 p7 p8
        have HEnd : Hid (∀ d2 w2, CHalfR enc w0 blk off sz T a b d d2 w2 → CLeaves enc w0 blk off sz (fun d' => PermIn a b d d' ∧ Srt T (G d') a b) (.returned (.tuple #[])) w2) := Lib.hid fun d2 w2 ⟨p1, p2, p3, p4⟩ => ⟨rfl, d2, ⟨p1, p4⟩, p2, p3⟩
        have hRot : Hid (st < m → m < e → Calls Try.prog 197 #[.slice (some ⟨blk, off, none⟩) sz cap, .int .i64 st, .int .i64 m, .int .i64 e, .func (.func g) #[] cb] wr (CLeaves enc w0 blk off sz fun d' => PermIn st e d d' ∧ ∀ k, G d' k = G d (rotI st m e k))) := Lib.hid fun g1 g2 => HRot.out d wr HZ.out HK.out.2.2 st m e g1 g2 (by omega)
        have hRl : Hid (∀ k, ¬ (st < m ∧ m < e) → rotI st m e k = k) := Lib.hid fun k hk => by
          unfold rotI
          repeat' split
          all_goals omega
        by_cases hr : st < m ∧ m < e
        · obtain ⟨hr1, hr2⟩ := hr
          have hRot' := hRot.out hr1 hr2
          go_wp2_with (first
            | (go_at_call 197; refine hRot'.mono ?_; rintro e' w2 ⟨rfl, d2, ⟨hp2, hm2⟩, hz2, hs2⟩; have H0 := Lib.hid (HMid.out d2 hz2 hm2 w2 (permIn_mono _ _ _ _ _ _ (by omega) (by omega) (by have := HZ.out; omega) hp2) hs2); clear hp2 hm2 hz2 hs2)
            | (go_at_call_of 167 (Value.int .i64 (a : Int)); refine (HLeft.out _ _ (by assumption) (by omega) (by omega)).mono ?_; rintro e' w3 ⟨rfl, d3, ⟨hp3, hm3⟩, hz3, hs3⟩; have H1 := Lib.hid (CHalves.left (Hid.out H0) hb (by omega) hp3 hz3 hs3 hm3 hae); clear hp3 hm3 hz3 hs3)
            | (go_at_call_of 167 (Value.int .i64 (b : Int)); refine (HRight.out _ _ (by first | assumption | exact Lib.hid (CHalves.skip (Hid.out H0) (by omega) (by omega) (by omega))) (by omega) (by omega)).mono ?_; rintro e' w4 ⟨rfl, d4, ⟨hp4, hm4⟩, hz4, hs4⟩; have H2 := Lib.hid (CHalfL.right (Hid.out (by first | assumption | exact Lib.hid (CHalves.skip (Hid.out H0) (by omega) (by omega) (by omega)))) hb (by omega) hp4 hz4 hs4 hm4); clear hp4 hm4 hz4 hs4))
          all_goals
            go_end0
            (first
              | exact HEnd.out _ _ (Hid.out H2)
              | exact HEnd.out _ _ (CHalfL.skip (Hid.out H1) (by omega) hae heb)
              | exact HEnd.out _ _ (CHalfL.skip (CHalves.skip (Hid.out H0) (by omega) (by omega) (by omega)) (by omega) hae heb))
        · have H0 := Lib.hid (HMid.out d HZ.out (fun k => by rw [hRl.out k hr]) wr (permIn_refl _ _ _) HK.out.2.2)
          have tr0 : (if st < m then decide (m < e) else false) = false := by
            by_cases h : st < m
            · rw [if_pos h]; simp; omega
            · rw [if_neg h]
          go_wp2_with (first
            | (go_at_call_of 167 (Value.int .i64 (a : Int)); refine (HLeft.out _ _ (by assumption) (by omega) (by omega)).mono ?_; rintro e' w3 ⟨rfl, d3, ⟨hp3, hm3⟩, hz3, hs3⟩; have H1 := Lib.hid (CHalves.left (Hid.out H0) hb (by omega) hp3 hz3 hs3 hm3 hae); clear hp3 hm3 hz3 hs3)
            | (go_at_call_of 167 (Value.int .i64 (b : Int)); refine (HRight.out _ _ (by first | assumption | exact Lib.hid (CHalves.skip (Hid.out H0) (by omega) (by omega) (by omega))) (by omega) (by omega)).mono ?_; rintro e' w4 ⟨rfl, d4, ⟨hp4, hm4⟩, hz4, hs4⟩; have H2 := Lib.hid (CHalfL.right (Hid.out (by first | assumption | exact Lib.hid (CHalves.skip (Hid.out H0) (by omega) (by omega) (by omega)))) hb (by omega) hp4 hz4 hs4 hm4); clear hp4 hm4 hz4 hs4))
          all_goals first
            | (exfalso; omega)
            | (go_end0; (first
              | exact HEnd.out _ _ (Hid.out H2)
              | exact HEnd.out _ _ (CHalfL.skip (Hid.out H1) (by omega) hae heb)
              | exact HEnd.out _ _ (CHalfL.skip (CHalves.skip (Hid.out H0) (by omega) (by omega) (by omega)) (by omega) hae heb)))
end Go.Proofs.Ytgfddolchachkaa
