/-
  Contract of the library's symMerge_func (package sort), over any program that bears its body: two sorted parts become one. Conditions: the two functions handed over read and exchange elements as they should; the test tells a strict order where an element of the right part is tested against one of the left part.
-/
import Derived.Test.YthiccmncdmohbaaGreatMGridTops31
set_option linter.unusedVariables false
set_option linter.unusedSimpArgs false
namespace Go.Proofs
open Go.Shelf Go.RowKit Go.Lib Go.Sort Go.Dam.Stable
set_option linter.unusedVariables false
variable {P : Program} {ρ : Ren} {α : Type} [Inhabited α] {g sf blk off : Nat} {lb sb : Array Value} {enc : α → Value} {lt : α → α → Bool} {T : α → α → Prop}
set_option maxHeartbeats 1600000 in
set_option maxRecDepth 100000 in
theorem St.symMerge_left (tr : ∀ x y z, T x y → T y z → T x z) (L : LaysGt.n30 P ρ) {d : Array α} {W : World} (F : Fam P g lb sf sb enc lt blk off d W) (a m b : Nat) (hm1 : m ≤ a + 1) (hm2 : a + 1 ≤ m) (hmb : m < b) (hb : b ≤ d.size)
    (hsr : Srt T (G d) m b) (hts : Tst T lt (G d) a m b) :
    Calls P (ρ.f 30) #[.agg #[.func (.func g) #[] lb, .func (.func sf) #[] sb], .int .i64 a, .int .i64 m, .int .i64 b] W (StLeaves enc blk off d W fun d' => PermIn a b d d' ∧ Srt T (G d') a b) := by
  have mixed := L.mixed; have t0 := L.t0; have a0 := L.a0; have z0 := L.z0; have v0 := L.v0; have t3 := L.t3; have a3 := L.a3; have z3 := L.z3; have v3 := L.v3; have t4 := L.t4; have a4 := L.a4; have z4 := L.z4; have v4 := L.v4; have t26 := L.t26; have a26 := L.a26; have z26 := L.z26; have v26 := L.v26; have t38 := L.t38; have a38 := L.a38; have z38 := L.z38; have v38 := L.v38; have t42 := L.t42; have a42 := L.a42; have z42 := L.z42; have v42 := L.v42; have t47 := L.t47; have a47 := L.a47; have z47 := L.z47; have v47 := L.v47
  have u42 := run_underlying L.t42
  have hsm := F.small
  have hblt := F.blt
  have HF := Lib.hid F
  have eg := F.eg
  have HSr := Lib.hid hsr
  have HTs := Lib.hid hts
  have HTr := Lib.hid tr
  clear F hsr hts tr
  have tt : ((m : Int) - (a : Int) == 1) = true := by simp; omega
  go_enter L.f30, BodyGt.n30_ntmps ρ
  go_wp2
  go_loopw [8, 9, 10] (fun iv jv _ wr => ∃ (i j : Nat), iv = .int .i64 i ∧ jv = .int .i64 j ∧ m ≤ i ∧ i ≤ j ∧ j ≤ b ∧ (i = m ∨ lt (G d (i - 1)) (G d a) = true) ∧ (j = b ∨ lt (G d j) (G d a) = false) ∧ SW enc (W.alloc (.cells #[.func (.func g) #[] lb, .func (.func sf) #[] sb] (ρ.t 42))) blk off d wr) (fun iv jv _ _ => (intOf jv).toNat - (intOf iv).toNat)
  case atStart => exact ⟨m, b, rfl, rfl, by omega, by omega, by omega, .inl rfl, .inl rfl, (HF.out.box _).start⟩
  case round =>
    obtain ⟨i, j, rfl, rfl, hai, hij, hjb, hlo, hhi, hsw⟩ := hrel
    obtain ⟨c0, c1⟩ := sw_box hblt hsw
    have HS := Lib.hid hsw
    have HLo := Lib.hid hlo
    have HHi := Lib.hid hhi
    have HFk := Lib.hid ((HF.out.box (.cells #[.func (.func g) #[] lb, .func (.func sf) #[] sb] (ρ.t 42))).on hsw rfl)
    by_cases hlt : i < j
    · have hl := HFk.out.les ((i + j) / 2) a (by omega) (by omega)
      rw [show ((((i + j) / 2 : Nat) : Int)) = ((i : Int) + j) / 2 from by omega] at hl
      clear hsw hlo hhi
      cases hlv : lt (G d ((i + j) / 2)) (G d a) with
      | true =>
        rw [hlv] at hl
        have HLv := Lib.hid hlv
        clear hlv
        go_wp2_with (go_at_fn g; refine hl.mono ?_; rintro e w' ⟨rfl, q, os1, hw1⟩; have HSg := Lib.hid (HS.out.grown q os1); rw [← hw1] at HSg; clear hw1)
        go_roundw
        case rel => exact ⟨(i + j) / 2 + 1, j, by congr 1, rfl, by omega, by omega, hjb, .inr (by rw [Nat.add_sub_cancel]; exact HLv.out), HHi.out, HSg.out⟩
        case measure => simp [intOf]; omega
      | false =>
        rw [hlv] at hl
        have HLv := Lib.hid hlv
        clear hlv
        go_wp2_with (go_at_fn g; refine hl.mono ?_; rintro e w' ⟨rfl, q, os1, hw1⟩; have HSg := Lib.hid (HS.out.grown q os1); rw [← hw1] at HSg; clear hw1)
        go_roundw
        case rel => exact ⟨i, (i + j) / 2, rfl, by congr 1, by omega, by omega, by omega, HLo.out, .inr HLv.out, HSg.out⟩
        case measure => simp [intOf]; omega
    · obtain rfl : i = j := by omega
      clear hsw hlo hhi c0 c1
      obtain ⟨wo, rfl⟩ : ∃ wo : World, wo = wr := ⟨_, rfl⟩
      go_wp2
      go_loopw [11] (fun kv wr => ∃ (k : Nat) (dk : Array α), kv = .int .i64 k ∧ a ≤ k ∧ k + 1 ≤ i ∧ dk.size = d.size ∧ PermIn a b d dk ∧ (∀ x, G dk x = G d (rotI a (a + 1) (k + 1) x)) ∧ SW enc (W.alloc (.cells #[.func (.func g) #[] lb, .func (.func sf) #[] sb] (ρ.t 42))) blk off dk wr) (fun kv _ => i - (intOf kv).toNat)
      case atStart => exact ⟨a, d, rfl, by omega, by omega, rfl, permIn_refl _ _ _, fun k => by rw [rot_up_0], HS.out⟩
      case round =>
        obtain ⟨k, dk, rfl, hak, hki, hsz, hperm, hmap, hsw⟩ := hrel
        have HP := Lib.hid hperm
        have HM := Lib.hid hmap
        have HSk := Lib.hid hsw
        have HSZ := Lib.hid hsz
        obtain ⟨c0, c1⟩ := sw_box hblt hsw
        have HFd := Lib.hid ((HF.out.box (.cells #[.func (.func g) #[] lb, .func (.func sf) #[] sb] (ρ.t 42))).on hsw hsz)
        by_cases hlt2 : k + 1 < i
        · have hs := HFd.out.exch k (k + 1) (by omega) (by omega)
          rw [show (((k + 1 : Nat) : Int)) = (k : Int) + 1 from by omega] at hs
          clear hperm hmap hsw hsz
          go_wp2
          go_roundw
          case rel =>
            refine ⟨k + 1, swp dk k (k + 1), by go_num, by omega, by omega, by rw [size_swp]; exact HSZ.out, permIn_trans _ _ _ _ _ HP.out (swp_permIn _ _ _ _ _ (by omega) (by omega) (by omega) (by omega) (by have := HSZ.out; omega)), fun x => ?_, sw_tr HSk.out (HFd.out.exchSW _ _ (by have := HSZ.out; omega) (by have := HSZ.out; omega)) (by simp; omega) (by rw [size_swp])⟩
            rw [swp_get' (by have := HSZ.out; omega) (by have := HSZ.out; omega), HM.out, rot_up (t := k + 1) (by omega)]; rfl
          case measure => simp [intOf]; omega
        · obtain rfl : i = k + 1 := by omega
          clear hperm hmap hsw hsz
          go_wp2
          go_end0
          obtain rfl : m = a + 1 := by omega
          exact ⟨rfl, dk, ⟨HP.out, merge_left HTr.out HSr.out HTs.out (by omega) (by omega) HLo.out HHi.out HM.out⟩, HSZ.out, HF.out.unbox HSk.out HSZ.out⟩
set_option maxHeartbeats 1600000 in
set_option maxRecDepth 100000 in
theorem St.symMerge_right (tr : ∀ x y z, T x y → T y z → T x z) (L : LaysGt.n30 P ρ) {d : Array α} {W : World} (F : Fam P g lb sf sb enc lt blk off d W) (a m b : Nat) (ham : a + 2 ≤ m) (hm1 : b ≤ m + 1) (hm2 : m + 1 ≤ b) (hb : b ≤ d.size)
    (hsl : Srt T (G d) a m) (hts : Tst T lt (G d) a m b) :
    Calls P (ρ.f 30) #[.agg #[.func (.func g) #[] lb, .func (.func sf) #[] sb], .int .i64 a, .int .i64 m, .int .i64 b] W (StLeaves enc blk off d W fun d' => PermIn a b d d' ∧ Srt T (G d') a b) := by
  have mixed := L.mixed; have t0 := L.t0; have a0 := L.a0; have z0 := L.z0; have v0 := L.v0; have t3 := L.t3; have a3 := L.a3; have z3 := L.z3; have v3 := L.v3; have t4 := L.t4; have a4 := L.a4; have z4 := L.z4; have v4 := L.v4; have t26 := L.t26; have a26 := L.a26; have z26 := L.z26; have v26 := L.v26; have t38 := L.t38; have a38 := L.a38; have z38 := L.z38; have v38 := L.v38; have t42 := L.t42; have a42 := L.a42; have z42 := L.z42; have v42 := L.v42; have t47 := L.t47; have a47 := L.a47; have z47 := L.z47; have v47 := L.v47
  have u42 := run_underlying L.t42
  have hsm := F.small
  have hblt := F.blt
  have HF := Lib.hid F
  have eg := F.eg
  have HSl := Lib.hid hsl
  have HTs := Lib.hid hts
  have HTr := Lib.hid tr
  clear F hsl hts tr
  have tt0 : ((m : Int) - (a : Int) == 1) = false := by rw [beq_eq_false_iff_ne]; omega
  have tt : ((b : Int) - (m : Int) == 1) = true := by simp; omega
  go_enter L.f30, BodyGt.n30_ntmps ρ
  go_wp2
  go_loopw [12, 13, 14] (fun iv jv _ wr => ∃ (i j : Nat), iv = .int .i64 i ∧ jv = .int .i64 j ∧ a ≤ i ∧ i ≤ j ∧ j ≤ m ∧ (i = a ∨ lt (G d m) (G d (i - 1)) = false) ∧ (j = m ∨ lt (G d m) (G d j) = true) ∧ SW enc (W.alloc (.cells #[.func (.func g) #[] lb, .func (.func sf) #[] sb] (ρ.t 42))) blk off d wr) (fun iv jv _ _ => (intOf jv).toNat - (intOf iv).toNat)
  case atStart => exact ⟨a, m, rfl, rfl, by omega, by omega, by omega, .inl rfl, .inl rfl, (HF.out.box _).start⟩
  case round =>
    obtain ⟨i, j, rfl, rfl, hai, hij, hjb, hlo, hhi, hsw⟩ := hrel
    obtain ⟨c0, c1⟩ := sw_box hblt hsw
    have HS := Lib.hid hsw
    have HLo := Lib.hid hlo
    have HHi := Lib.hid hhi
    have HFk := Lib.hid ((HF.out.box (.cells #[.func (.func g) #[] lb, .func (.func sf) #[] sb] (ρ.t 42))).on hsw rfl)
    by_cases hlt : i < j
    · have hl := HFk.out.les m ((i + j) / 2) (by omega) (by omega)
      rw [show ((((i + j) / 2 : Nat) : Int)) = ((i : Int) + j) / 2 from by omega] at hl
      clear hsw hlo hhi
      cases hlv : lt (G d m) (G d ((i + j) / 2)) with
      | true =>
        rw [hlv] at hl
        have HLv := Lib.hid hlv
        clear hlv
        go_wp2_with (go_at_fn g; refine hl.mono ?_; rintro e w' ⟨rfl, q, os1, hw1⟩; have HSg := Lib.hid (HS.out.grown q os1); rw [← hw1] at HSg; clear hw1)
        go_roundw
        case rel => exact ⟨i, (i + j) / 2, rfl, by congr 1, by omega, by omega, by omega, HLo.out, .inr HLv.out, HSg.out⟩
        case measure => simp [intOf]; omega
      | false =>
        rw [hlv] at hl
        have HLv := Lib.hid hlv
        clear hlv
        go_wp2_with (go_at_fn g; refine hl.mono ?_; rintro e w' ⟨rfl, q, os1, hw1⟩; have HSg := Lib.hid (HS.out.grown q os1); rw [← hw1] at HSg; clear hw1)
        go_roundw
        case rel => exact ⟨(i + j) / 2 + 1, j, by congr 1, rfl, by omega, by omega, hjb, .inr (by rw [Nat.add_sub_cancel]; exact HLv.out), HHi.out, HSg.out⟩
        case measure => simp [intOf]; omega
    · obtain rfl : i = j := by omega
      clear hsw hlo hhi c0 c1
      obtain ⟨wo, rfl⟩ : ∃ wo : World, wo = wr := ⟨_, rfl⟩
      go_wp2
      go_loopw [15] (fun kv wr => ∃ (k : Nat) (dk : Array α), kv = .int .i64 k ∧ i ≤ k ∧ k ≤ m ∧ dk.size = d.size ∧ PermIn a b d dk ∧ (∀ x, G dk x = G d (rotI k m (m + 1) x)) ∧ SW enc (W.alloc (.cells #[.func (.func g) #[] lb, .func (.func sf) #[] sb] (ρ.t 42))) blk off dk wr) (fun kv _ => (intOf kv).toNat)
      case atStart => exact ⟨m, d, rfl, by omega, by omega, rfl, permIn_refl _ _ _, fun k => by rw [rot_down_0], HS.out⟩
      case round =>
        obtain ⟨k, dk, rfl, hak, hki, hsz, hperm, hmap, hsw⟩ := hrel
        have HP := Lib.hid hperm
        have HM := Lib.hid hmap
        have HSk := Lib.hid hsw
        have HSZ := Lib.hid hsz
        obtain ⟨c0, c1⟩ := sw_box hblt hsw
        have HFd := Lib.hid ((HF.out.box (.cells #[.func (.func g) #[] lb, .func (.func sf) #[] sb] (ρ.t 42))).on hsw hsz)
        by_cases hlt2 : i < k
        · have hs := HFd.out.exch k (k - 1) (by omega) (by omega)
          rw [show (((k - 1 : Nat) : Int)) = (k : Int) - 1 from by omega] at hs
          clear hperm hmap hsw hsz
          go_wp2
          go_roundw
          case rel =>
            refine ⟨k - 1, swp dk k (k - 1), by congr 1; omega, by omega, by omega, by rw [size_swp]; exact HSZ.out, permIn_trans _ _ _ _ _ HP.out (swp_permIn _ _ _ _ _ (by omega) (by omega) (by omega) (by omega) (by have := HSZ.out; omega)), fun x => ?_, sw_tr HSk.out (HFd.out.exchSW _ _ (by have := HSZ.out; omega) (by have := HSZ.out; omega)) (by simp; omega) (by rw [size_swp])⟩
            rw [swp_get' (by have := HSZ.out; omega) (by have := HSZ.out; omega), HM.out, rot_down (by omega) hki]
          case measure => simp [intOf]; omega
        · obtain rfl : i = k := by omega
          clear hperm hmap hsw hsz
          go_wp2
          go_end0
          obtain rfl : b = m + 1 := by omega
          exact ⟨rfl, dk, ⟨HP.out, merge_right HTr.out HSl.out HTs.out (by omega) (by omega) HLo.out HHi.out HM.out⟩, HSZ.out, HF.out.unbox HSk.out HSZ.out⟩
/-- The two halves behind the turn: each of them two sorted parts that can be merged. -/
def Halves (enc : α → Value) (blk off : Nat) (T : α → α → Prop) (lt : α → α → Bool) (a st md e b : Nat) (d : Array α) (W0 : World) (d2 : Array α) (w2 : World) : Prop :=
  PermIn a b d d2 ∧ d2.size = d.size ∧ SW enc W0 blk off d2 w2 ∧ Sep T (G d2) a md b ∧ Srt T (G d2) a st ∧ Srt T (G d2) st md ∧ Srt T (G d2) md e ∧ Srt T (G d2) e b ∧ Tst T lt (G d2) a st md ∧ Tst T lt (G d2) md e b
/-- The left half is sorted. -/
def HalfL (enc : α → Value) (blk off : Nat) (T : α → α → Prop) (lt : α → α → Bool) (a md e b : Nat) (d : Array α) (W0 : World) (d2 : Array α) (w2 : World) : Prop :=
  PermIn a b d d2 ∧ d2.size = d.size ∧ SW enc W0 blk off d2 w2 ∧ Sep T (G d2) a md b ∧ Srt T (G d2) a md ∧ Srt T (G d2) md e ∧ Srt T (G d2) e b ∧ Tst T lt (G d2) md e b
/-- Both halves are sorted. -/
def HalfR (enc : α → Value) (blk off : Nat) (T : α → α → Prop) (a b : Nat) (d : Array α) (W0 : World) (d2 : Array α) (w2 : World) : Prop :=
  PermIn a b d d2 ∧ d2.size = d.size ∧ SW enc W0 blk off d2 w2 ∧ Srt T (G d2) a b
section
variable {a st md e b : Nat} {d d2 d3 : Array α} {W0 w2 w3 : World}
theorem Halves.skip (h : Halves enc blk off T lt a st md e b d W0 d2 w2) (hn : ¬ (a < st ∧ st < md)) (h1 : a ≤ st) (h2 : st ≤ md) : HalfL enc blk off T lt a md e b d W0 d2 w2 := by
  obtain ⟨p1, p2, p3, p4, p5, p6, p7, p8, p9, p10⟩ := h
  refine ⟨p1, p2, p3, p4, ?_, p7, p8, p10⟩
  rcases (show st = a ∨ st = md from by omega) with rfl | rfl
  · exact p6
  · exact p5
theorem HalfL.skip (h : HalfL enc blk off T lt a md e b d W0 d2 w2) (hn : ¬ (md < e ∧ e < b)) (h1 : md ≤ e) (h2 : e ≤ b) (h3 : a ≤ md) (h4 : md ≤ b) : HalfR enc blk off T a b d W0 d2 w2 := by
  obtain ⟨p1, p2, p3, p4, p5, p6, p7, p8⟩ := h
  refine ⟨p1, p2, p3, p5.join ?_ p4⟩
  rcases (show e = md ∨ e = b from by omega) with rfl | rfl
  · exact p7
  · exact p6
theorem Halves.left (h : Halves enc blk off T lt a st md e b d W0 d2 w2) (hb : b ≤ d.size) (h3 : a ≤ md) (h4 : md ≤ b) (hblk : blk < W0.heap.size) (hp : PermIn a md d2 d3) (hs : d3.size = d2.size) (hw : SW enc w2 blk off d3 w3) (hsr : Srt T (G d3) a md) (h5 : md ≤ e) (h6 : e ≤ b) : HalfL enc blk off T lt a md e b d W0 d3 w3 := by
  obtain ⟨p1, p2, p3, p4, p5, p6, p7, p8, p9, p10⟩ := h
  have hm := PermIn_mix (by omega) hp
  have far : ∀ k, md ≤ k → G d3 k = G d2 k := fun k hk => hm.2 k (by omega)
  refine ⟨permIn_trans _ _ _ _ _ p1 (permIn_mono _ _ _ _ _ _ (Nat.le_refl _) h4 (by omega) hp), by omega, sw_tr p3 hw hblk hs, p4.mixL hm, hsr, p7.keep hm (.inr (Nat.le_refl _)), p8.keep hm (.inr h5), fun i j g1 g2 g3 g4 => ?_⟩
  rw [far i g1, far j (by omega)]
  exact p10 i j g1 g2 g3 g4
theorem HalfL.right (h : HalfL enc blk off T lt a md e b d W0 d2 w2) (hb : b ≤ d.size) (h3 : a ≤ md) (h4 : md ≤ b) (hblk : blk < W0.heap.size) (hp : PermIn md b d2 d3) (hs : d3.size = d2.size) (hw : SW enc w2 blk off d3 w3) (hsr : Srt T (G d3) md b) : HalfR enc blk off T a b d W0 d3 w3 := by
  obtain ⟨p1, p2, p3, p4, p5, p6, p7, p8⟩ := h
  have hm := PermIn_mix (by omega) hp
  exact ⟨permIn_trans _ _ _ _ _ p1 (permIn_mono _ _ _ _ _ _ h3 (Nat.le_refl _) (by omega) hp), by omega, sw_tr p3 hw hblk hs, (p5.keep hm (.inl (Nat.le_refl _))).join hsr (p4.mixR hm)⟩
end
end Go.Proofs
