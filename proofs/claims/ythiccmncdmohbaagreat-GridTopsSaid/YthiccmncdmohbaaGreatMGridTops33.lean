/-
  Contract of the library's symMerge_func and stable_func (package sort) at whatever length, over any program that bears their bodies: the row is permuted and sorted by a strict order with which the test agrees. Conditions: the two functions handed over read and exchange elements as they should; the test tells a strict order where a later element is tested against an earlier one.
-/
import Derived.Test.YthiccmncdmohbaaGreatMGridTops32
set_option linter.unusedVariables false
set_option linter.unusedSimpArgs false
namespace Go.Proofs
open Go.Shelf Go.RowKit Go.Lib Go.Sort Go.Dam.Stable
set_option linter.unusedVariables false
variable {P : Program} {ρ : Ren} {α : Type} [Inhabited α] {g sf blk off : Nat} {lb sb : Array Value} {enc : α → Value} {lt : α → α → Bool} {T : α → α → Prop}
/-- What symMerge_func does. -/
def MergeSays (P : Program) (ρ : Ren) (g sf blk off : Nat) (lb sb : Array Value) (enc : α → Value) (lt : α → α → Bool) (T : α → α → Prop) (a m b : Nat) : Prop :=
  ∀ (d : Array α) (W : World), Fam P g lb sf sb enc lt blk off d W → a < m → m < b → b ≤ d.size → Srt T (G d) a m → Srt T (G d) m b → Tst T lt (G d) a m b →
    Calls P (ρ.f 30) #[.agg #[.func (.func g) #[] lb, .func (.func sf) #[] sb], .int .i64 a, .int .i64 m, .int .i64 b] W (StLeaves enc blk off d W fun d' => PermIn a b d d' ∧ Srt T (G d') a b)
set_option maxHeartbeats 4000000 in
set_option maxRecDepth 100000 in
theorem St.symMerge_mid (tr : ∀ x y z, T x y → T y z → T x z) (L : LaysGt.n30 P ρ) (a m b : Nat) (ih : ∀ a' m' b', b' - a' < b - a → MergeSays P ρ g sf blk off lb sb enc lt T a' m' b')
    {d : Array α} {W : World} (F : Fam P g lb sf sb enc lt blk off d W) (ham : a + 2 ≤ m) (hmb : m + 2 ≤ b) (hb : b ≤ d.size)
    (hsl : Srt T (G d) a m) (hsr : Srt T (G d) m b) (hts : Tst T lt (G d) a m b) (md lo hi : Nat) (hmd1 : 2 * md ≤ a + b) (hmd2 : a + b ≤ 2 * md + 1)
    (hlh : (decide (md < m) = true ∧ md < m ∧ b + lo ≤ md + m ∧ md + m ≤ b + lo ∧ md ≤ hi ∧ hi ≤ md) ∨ (decide (md < m) = false ∧ m ≤ md ∧ a ≤ lo ∧ lo ≤ a ∧ m ≤ hi ∧ hi ≤ m)) :
    Calls P (ρ.f 30) #[.agg #[.func (.func g) #[] lb, .func (.func sf) #[] sb], .int .i64 a, .int .i64 m, .int .i64 b] W (StLeaves enc blk off d W fun d' => PermIn a b d d' ∧ Srt T (G d') a b) := by
  have mixed := L.mixed; have t0 := L.t0; have a0 := L.a0; have z0 := L.z0; have v0 := L.v0; have t3 := L.t3; have a3 := L.a3; have z3 := L.z3; have v3 := L.v3; have t4 := L.t4; have a4 := L.a4; have z4 := L.z4; have v4 := L.v4; have t26 := L.t26; have a26 := L.a26; have z26 := L.z26; have v26 := L.v26; have t38 := L.t38; have a38 := L.a38; have z38 := L.z38; have v38 := L.v38; have t42 := L.t42; have a42 := L.a42; have z42 := L.z42; have v42 := L.v42; have t47 := L.t47; have a47 := L.a47; have z47 := L.z47; have v47 := L.v47
  have u42 := run_underlying L.t42
  have e30 : ∀ args w, (callFunc (ρ.f 30) args).run P w = .ok (.enter (ρ.f 30) args) w := enters_of L.f30 (by kernel_rfl) rfl
  have e42 : ∀ args w, (callFunc (ρ.f 42) args).run P w = .ok (.enter (ρ.f 42) args) w := enters_of L.f42 (by kernel_rfl) rfl
  have LR : LaysGt.n42 P ρ := { L with }
  have hsm := F.small
  have hblt := F.blt
  have HF := Lib.hid F
  have eg := F.eg
  have HSl := Lib.hid hsl
  have HSr := Lib.hid hsr
  have HTs := Lib.hid hts
  have HTr := Lib.hid tr
  have HIH := Lib.hid ih
  clear F hsl hsr hts tr ih
  have tt0 : ((m : Int) - (a : Int) == 1) = false := by rw [beq_eq_false_iff_ne]; omega
  have tt1 : ((b : Int) - (m : Int) == 1) = false := by rw [beq_eq_false_iff_ne]; omega
  have emd : ((a : Int) + (b : Int)) / 2 = (md : Int) := by omega
  have h1 : a ≤ lo := by omega
  have h2 : md + m ≤ b + lo := by omega
  have h3 : hi ≤ md := by omega
  have h4 : hi ≤ m := by omega
  have h5 : lo ≤ hi := by omega
  have h6 : lo = a ∨ md + m = b + lo := by omega
  have h7 : hi = md ∨ hi = m := by omega
  have H6 := Lib.hid h6
  have H7 := Lib.hid h7
  clear h6 h7
  rcases hlh with ⟨tb, hbig, q1, q2, q3, q4⟩ | ⟨tb, hbig, q1, q2, q3, q4⟩
  all_goals
    go_enter L.f30, BodyGt.n30_ntmps ρ
    go_wp2
    go_loopw [18, 19, 21] (fun sv rv _ wr => ∃ (st r : Nat), sv = .int .i64 st ∧ rv = .int .i64 r ∧ lo ≤ st ∧ st ≤ r ∧ r ≤ hi ∧ (st = lo ∨ lt (G d (md + m - st)) (G d (st - 1)) = false) ∧ (r = hi ∨ lt (G d (md + m - 1 - r)) (G d r) = true) ∧ SW enc (W.alloc (.cells #[.func (.func g) #[] lb, .func (.func sf) #[] sb] (ρ.t 42))) blk off d wr) (fun sv rv _ _ => (intOf rv).toNat - (intOf sv).toNat)
    case atStart => exact ⟨lo, hi, by congr 1; omega, by congr 1; omega, by omega, h5, by omega, .inl rfl, .inl rfl, (HF.out.box _).start⟩
    case round =>
      obtain ⟨st, r, rfl, rfl, hls, hsr, hrh, hlo, hhi, hsw⟩ := hrel
      obtain ⟨c0, c1⟩ := sw_box hblt hsw
      have HS := Lib.hid hsw
      have HLo := Lib.hid hlo
      have HHi := Lib.hid hhi
      have HFk := Lib.hid ((HF.out.box (.cells #[.func (.func g) #[] lb, .func (.func sf) #[] sb] (ρ.t 42))).on hsw rfl)
      by_cases hlt : st < r
      · have hl := HFk.out.les (md + m - 1 - (st + r) / 2) ((st + r) / 2) (by omega) (by omega)
        rw [show (((md + m - 1 - (st + r) / 2 : Nat) : Int)) = (md : Int) + m - 1 - ((st : Int) + r) / 2 from by omega, show ((((st + r) / 2 : Nat) : Int)) = ((st : Int) + r) / 2 from by omega] at hl
        clear hsw hlo hhi
        cases hlv : lt (G d (md + m - 1 - (st + r) / 2)) (G d ((st + r) / 2)) with
        | true =>
          rw [hlv] at hl
          have HLv := Lib.hid hlv
          clear hlv
          go_wp2_with (go_at_fn g; refine hl.mono ?_; rintro e w' ⟨rfl, q, os1, hw1⟩; have HSg := Lib.hid (HS.out.grown q os1); rw [← hw1] at HSg; clear hw1)
          go_roundw
          case rel => exact ⟨st, (st + r) / 2, rfl, by congr 1, by omega, by omega, by omega, HLo.out, .inr HLv.out, HSg.out⟩
          case measure => simp [intOf]; omega
        | false =>
          rw [hlv] at hl
          have HLv := Lib.hid hlv
          clear hlv
          go_wp2_with (go_at_fn g; refine hl.mono ?_; rintro e w' ⟨rfl, q, os1, hw1⟩; have HSg := Lib.hid (HS.out.grown q os1); rw [← hw1] at HSg; clear hw1)
          go_roundw
          case rel => exact ⟨(st + r) / 2 + 1, r, by congr 1, rfl, by omega, by omega, hrh, .inr (by rw [show md + m - ((st + r) / 2 + 1) = md + m - 1 - (st + r) / 2 from by omega, Nat.add_sub_cancel]; exact HLv.out), HHi.out, HSg.out⟩
          case measure => simp [intOf]; omega
      · obtain rfl : st = r := by omega
        clear hsw hlo hhi
        obtain ⟨e, he1, he2⟩ : ∃ e, e + st ≤ md + m ∧ md + m ≤ e + st := ⟨md + m - st, by omega, by omega⟩
        have ee : (md : Int) + (m : Int) - (st : Int) = (e : Int) := by omega
        have hmdlt : a < md := by omega
        have hmdb : md < b := by omega
        have HMid : Hid (∀ d2, d2.size = d.size → (∀ k, G d2 k = G d (rotI st m e k)) → ∀ w2, PermIn a b d d2 → SW enc (W.alloc (.cells #[.func (.func g) #[] lb, .func (.func sf) #[] sb] (ρ.t 42))) blk off d2 w2 → Halves enc blk off T lt a st md e b d (W.alloc (.cells #[.func (.func g) #[] lb, .func (.func sf) #[] sb] (ρ.t 42))) d2 w2) := Lib.hid fun d2 hz2 hm2 w2 hp2 hs2 => by
          obtain rfl : e = md + m - st := by omega
          obtain ⟨x1, x2, x3, x4, x5, x6, x7⟩ := merge_mid HTr.out (G := G d2) (mid := md) (start := st) HSl.out HSr.out HTs.out (by omega) (by omega) (by omega) (by omega) (by omega) (by omega) (by omega)
            (by rcases HLo.out with h | h
                · rcases H6.out with k | k
                  · exact .inl (by omega)
                  · exact .inr (.inl (by omega))
                · exact .inr (.inr h))
            (by rcases HHi.out with h | h
                · rcases H7.out with k | k
                  · exact .inl (by omega)
                  · exact .inr (.inl (by omega))
                · exact .inr (.inr h)) hm2
          exact ⟨hp2, hz2, hs2, x1, x2, x3, x4, x5, x6, x7⟩
        have HLeft : Hid (∀ d2 w2, Hid (Halves enc blk off T lt a st md e b d (W.alloc (.cells #[.func (.func g) #[] lb, .func (.func sf) #[] sb] (ρ.t 42))) d2 w2) → a < st → st < md → Calls P (ρ.f 30) #[.agg #[.func (.func g) #[] lb, .func (.func sf) #[] sb], .int .i64 a, .int .i64 st, .int .i64 md] w2 (StLeaves enc blk off d2 w2 fun d' => PermIn a md d2 d' ∧ Srt T (G d') a md)) := Lib.hid fun d2 w2 h g1 g2 => by
          obtain ⟨p1, p2, p3, p4, p5, p6, p7, p8, p9, p10⟩ := h.out
          exact HIH.out a st md (by omega) d2 w2 ((HF.out.box _).on p3 p2) g1 g2 (by omega) p5 p6 p9
        have HRight : Hid (∀ d2 w2, Hid (HalfL enc blk off T lt a md e b d (W.alloc (.cells #[.func (.func g) #[] lb, .func (.func sf) #[] sb] (ρ.t 42))) d2 w2) → md < e → e < b → Calls P (ρ.f 30) #[.agg #[.func (.func g) #[] lb, .func (.func sf) #[] sb], .int .i64 md, .int .i64 e, .int .i64 b] w2 (StLeaves enc blk off d2 w2 fun d' => PermIn md b d2 d' ∧ Srt T (G d') md b)) := Lib.hid fun d2 w2 h g1 g2 => by
          obtain ⟨p1, p2, p3, p4, p5, p6, p7, p8⟩ := h.out
          exact HIH.out md e b (by omega) d2 w2 ((HF.out.box _).on p3 p2) g1 g2 (by omega) p6 p7 p8
        have HBox : Hid (∀ d2 w2, SW enc (W.alloc (.cells #[.func (.func g) #[] lb, .func (.func sf) #[] sb] (ρ.t 42))) blk off d2 w2 → w2.cell? ⟨W.heap.size, 0, none⟩ = some (.func (.func g) #[] lb) ∧ w2.cell? ⟨W.heap.size, 1, none⟩ = some (.func (.func sf) #[] sb)) := Lib.hid fun d2 w2 h => sw_box hblt h
        have HEnd : Hid (∀ d2 w2, HalfR enc blk off T a b d (W.alloc (.cells #[.func (.func g) #[] lb, .func (.func sf) #[] sb] (ρ.t 42))) d2 w2 → StLeaves enc blk off d W (fun d' => PermIn a b d d' ∧ Srt T (G d') a b) (.returned (.tuple #[])) w2) := Lib.hid fun d2 w2 ⟨p1, p2, p3, p4⟩ => ⟨rfl, d2, ⟨p1, p4⟩, p2, HF.out.unbox p3 p2⟩
        have hae : md ≤ e := by omega
        have heb : e ≤ b := by omega
        have hRot : Hid (st < m → m < e → Calls P (ρ.f 42) #[.agg #[.func (.func g) #[] lb, .func (.func sf) #[] sb], .int .i64 st, .int .i64 m, .int .i64 e] wr (StLeaves enc blk off d wr fun d' => PermIn st e d d' ∧ ∀ k, G d' k = G d (rotI st m e k))) := Lib.hid fun g1 g2 => St.rotate_any LR HFk.out st m e g1 g2 (by omega)
        have hRl : Hid (∀ k, ¬ (st < m ∧ m < e) → rotI st m e k = k) := Lib.hid fun k hk => by
          unfold rotI
          repeat' split
          all_goals omega
        clear c0 c1
        by_cases hr : st < m ∧ m < e
        · obtain ⟨hr1, hr2⟩ := hr
          have hRot' := hRot.out hr1 hr2
          obtain ⟨k0, k1⟩ := HBox.out _ _ HS.out
          go_wp2_with (first
            | (go_at_fn (ρ.f 42); refine hRot'.mono ?_; rintro e' w2 ⟨rfl, d2, ⟨hp2, hm2⟩, hz2, hs2⟩; have H0 := Lib.hid (HMid.out d2 hz2 hm2 w2 (permIn_mono _ _ _ _ _ _ (by omega) (by omega) (by omega) hp2) (sw_tr HS.out hs2 (by simp; omega) hz2)); clear hp2 hm2 hz2 hs2; obtain ⟨k2, k3⟩ := HBox.out _ _ H0.out.2.2.1)
            | (go_at_fn_of (ρ.f 30) (Value.int .i64 (a : Int)); refine (HLeft.out _ _ (by assumption) (by omega) (by omega)).mono ?_; rintro e' w3 ⟨rfl, d3, ⟨hp3, hm3⟩, hz3, hs3⟩; have H1 := Lib.hid (Halves.left (Hid.out H0) hb (by omega) (by omega) (by simp; omega) hp3 hz3 hs3 hm3 hae heb); clear hp3 hm3 hz3 hs3; obtain ⟨k4, k5⟩ := HBox.out _ _ H1.out.2.2.1)
            | (go_at_fn_of (ρ.f 30) (Value.int .i64 (b : Int)); refine (HRight.out _ _ (by first | assumption | exact Lib.hid (Halves.skip (Hid.out H0) (by omega) (by omega) (by omega))) (by omega) (by omega)).mono ?_; rintro e' w4 ⟨rfl, d4, ⟨hp4, hm4⟩, hz4, hs4⟩; have H2 := Lib.hid (HalfL.right (Hid.out (by first | assumption | exact Lib.hid (Halves.skip (Hid.out H0) (by omega) (by omega) (by omega)))) hb (by omega) (by omega) (by simp; omega) hp4 hz4 hs4 hm4); clear hp4 hm4 hz4 hs4))
          all_goals
            go_end0
            (first
              | exact HEnd.out _ _ (Hid.out H2)
              | exact HEnd.out _ _ (HalfL.skip (Hid.out H1) (by omega) hae heb (by omega) (by omega))
              | exact HEnd.out _ _ (HalfL.skip (Halves.skip (Hid.out H0) (by omega) (by omega) (by omega)) (by omega) hae heb (by omega) (by omega)))
        · have H0 := Lib.hid (HMid.out d rfl (fun k => by rw [hRl.out k hr]) wr (permIn_refl _ _ _) HS.out)
          obtain ⟨k0, k1⟩ := HBox.out _ _ HS.out
          have tr0 : (if st < m then decide (m < e) else false) = false := by
            by_cases h : st < m
            · rw [if_pos h]; simp; omega
            · rw [if_neg h]
          go_wp2_with (first
            | (go_at_fn_of (ρ.f 30) (Value.int .i64 (a : Int)); refine (HLeft.out _ _ (by assumption) (by omega) (by omega)).mono ?_; rintro e' w3 ⟨rfl, d3, ⟨hp3, hm3⟩, hz3, hs3⟩; have H1 := Lib.hid (Halves.left (Hid.out H0) hb (by omega) (by omega) (by simp; omega) hp3 hz3 hs3 hm3 hae heb); clear hp3 hm3 hz3 hs3; obtain ⟨k4, k5⟩ := HBox.out _ _ H1.out.2.2.1)
            | (go_at_fn_of (ρ.f 30) (Value.int .i64 (b : Int)); refine (HRight.out _ _ (by first | assumption | exact Lib.hid (Halves.skip (Hid.out H0) (by omega) (by omega) (by omega))) (by omega) (by omega)).mono ?_; rintro e' w4 ⟨rfl, d4, ⟨hp4, hm4⟩, hz4, hs4⟩; have H2 := Lib.hid (HalfL.right (Hid.out (by first | assumption | exact Lib.hid (Halves.skip (Hid.out H0) (by omega) (by omega) (by omega)))) hb (by omega) (by omega) (by simp; omega) hp4 hz4 hs4 hm4); clear hp4 hm4 hz4 hs4))
          all_goals first
            | (exfalso; omega)
            | (go_end0; (first
              | exact HEnd.out _ _ (Hid.out H2)
              | exact HEnd.out _ _ (HalfL.skip (Hid.out H1) (by omega) hae heb (by omega) (by omega))
              | exact HEnd.out _ _ (HalfL.skip (Halves.skip (Hid.out H0) (by omega) (by omega) (by omega)) (by omega) hae heb (by omega) (by omega))))
end Go.Proofs
