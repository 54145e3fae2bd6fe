/-
  Contract of the library's stable_func and SliceStable (package sort) at whatever length, over any program that bears their bodies. Conditions: the two functions handed over read and exchange elements as they should; the test tells a strict order where a later element is tested against an earlier one.
-/
import Derived.Test.YthiccmncdmohbaaGreatMGridTops33
set_option linter.unusedVariables false
set_option linter.unusedSimpArgs false
namespace Go.Proofs
open Go.Shelf Go.RowKit Go.Lib Go.Sort Go.Dam.Stable
set_option linter.unusedVariables false
variable {P : Program} {ρ : Ren} {α : Type} [Inhabited α] {g sf blk off : Nat} {lb sb : Array Value} {enc : α → Value} {lt : α → α → Bool} {T : α → α → Prop}
theorem St.symMerge_any (tr : ∀ x y z, T x y → T y z → T x z) (L : LaysGt.n30 P ρ) : ∀ (n a m b : Nat), b - a = n → MergeSays P ρ g sf blk off lb sb enc lt T a m b := by
  intro n
  induction n using Nat.strongRecOn with
  | _ n ih =>
    intro a m b hn d W F ham hmb hb h1 h2 h3
    by_cases c1 : m ≤ a + 1
    · exact St.symMerge_left tr L F a m b c1 (by omega) hmb hb h2 h3
    · by_cases c2 : b ≤ m + 1
      · exact St.symMerge_right tr L F a m b (by omega) c2 (by omega) hb h1 h3
      · by_cases c3 : (a + b) / 2 < m
        · exact St.symMerge_mid tr L a m b (fun a' m' b' h => ih (b' - a') (by omega) a' m' b' rfl) F (by omega) (by omega) hb h1 h2 h3 ((a + b) / 2) ((a + b) / 2 + m - b) ((a + b) / 2) (by omega) (by omega) (.inl ⟨by simpa using c3, c3, by omega, by omega, by omega, by omega⟩)
        · exact St.symMerge_mid tr L a m b (fun a' m' b' h => ih (b' - a') (by omega) a' m' b' rfl) F (by omega) (by omega) hb h1 h2 h3 ((a + b) / 2) a m (by omega) (by omega) (.inr ⟨by simpa using c3, by omega, by omega, by omega, by omega, by omega⟩)
set_option maxHeartbeats 1600000 in
set_option maxRecDepth 1000000 in
/-- The insertion sort of a part, as a part of the stable sort. -/
theorem St.insertion_any (tr : ∀ x y z, T x y → T y z → T x z) (L : LaysGt.n29 P ρ) {d : Array α} {W : World} (F : Fam P g lb sf sb enc lt blk off d W) (a b : Nat) (hab : a ≤ b) (hb : b ≤ d.size) (ht : Tst0 T lt (G d) a b) :
    Calls P (ρ.f 29) #[.agg #[.func (.func g) #[] lb, .func (.func sf) #[] sb], .int .i64 a, .int .i64 b] W (StLeaves enc blk off d W fun d' => PermIn a b d d' ∧ Srt T (G d') a b) := by
  have hs := ins_sort tr ht hab hb
  have mixed := L.mixed; have t0 := L.t0; have a0 := L.a0; have z0 := L.z0; have v0 := L.v0; have t3 := L.t3; have a3 := L.a3; have z3 := L.z3; have v3 := L.v3; have t4 := L.t4; have a4 := L.a4; have z4 := L.z4; have v4 := L.v4; have t26 := L.t26; have a26 := L.a26; have z26 := L.z26; have v26 := L.v26; have t38 := L.t38; have a38 := L.a38; have z38 := L.z38; have v38 := L.v38; have t42 := L.t42; have a42 := L.a42; have z42 := L.z42; have v42 := L.v42
  have u42 := run_underlying L.t42
  have hsm := F.small
  have hblt := F.blt
  have eg := F.eg
  have HF := Lib.hid F
  have HR := Lib.hid hs
  clear F hs ht tr
  go_enter L.f29, BodyGt.n29_ntmps ρ
  go_wp2
  go_loopw [6] (fun vi wr => ∃ (i : Nat) (dk : Array α), vi = .int .i64 i ∧ a < i ∧ i ≤ b + 1 ∧ dk.size = d.size ∧ Hid (insOuter lt a b i dk = insOuter lt a b (a + 1) d) ∧ SW enc (W.alloc (.cells #[.func (.func g) #[] lb, .func (.func sf) #[] sb] (ρ.t 42))) blk off dk wr) (fun vi _ => b + 1 - (intOf vi).toNat)
  case atStart => exact ⟨a + 1, d, by go_num, by omega, by omega, rfl, Lib.hid rfl, (HF.out.box _).start⟩
  case round =>
    obtain ⟨i, dk, rfl, hai, hib, hsk, HO, hsw⟩ := hrel
    have HS0 := Lib.hid hsw
    by_cases hlt : i < b
    · clear hsw
      go_wp2
      go_loopw [7] (fun vj wr2 => ∃ (j : Nat) (dj : Array α), vj = .int .i64 j ∧ a ≤ j ∧ j ≤ i ∧ dj.size = d.size ∧ Hid (insInner lt a j dj = insInner lt a i dk) ∧ SW enc (W.alloc (.cells #[.func (.func g) #[] lb, .func (.func sf) #[] sb] (ρ.t 42))) blk off dj wr2) (fun vj _ => (intOf vj).toNat)
      case atStart => exact ⟨i, dk, rfl, by omega, Nat.le_refl _, hsk, Lib.hid rfl, HS0.out⟩
      case round =>
        obtain ⟨j, dj, rfl, haj, hji, hsj, HI, hsw⟩ := hrel
        obtain ⟨c0, c1⟩ := sw_box hblt hsw
        have HS := Lib.hid hsw
        have HFk := Lib.hid ((HF.out.box (.cells #[.func (.func g) #[] lb, .func (.func sf) #[] sb] (ρ.t 42))).on hsw hsj)
        clear hsw
        by_cases hja : a < j
        · have hl := HFk.out.les j (j - 1) (by omega) (by omega)
          rw [show (((j - 1 : Nat) : Int)) = (j : Int) - 1 from by omega] at hl
          cases hlv : lt (G dj j) (G dj (j - 1)) with
          | true =>
            rw [hlv] at hl
            have HLv := Lib.hid hlv
            clear hlv
            go_wp2_with (go_at_fn g; refine hl.mono ?_; rintro e w' ⟨rfl, q, os1, hw1⟩; have HSg := Lib.hid (HS.out.grown q os1); rw [← hw1] at HSg; clear hw1; obtain ⟨c2, c3⟩ := sw_box hblt HSg.out; have HFm := Lib.hid ((HF.out.box (.cells #[.func (.func g) #[] lb, .func (.func sf) #[] sb] (ρ.t 42))).on HSg.out hsj); have hx := HFm.out.exch j (j - 1) (by omega) (by omega); rw [show (((j - 1 : Nat) : Int)) = (j : Int) - 1 from by omega] at hx)
            go_roundw
            case rel => exact ⟨j - 1, swp dj j (j - 1), by congr 1; omega, by omega, by omega, by rw [size_swp]; exact hsj, Lib.hid (by rw [← HI.out]; exact (insInner_go lt a j dj hja HLv.out).symm), sw_tr HSg.out (HFm.out.exchSW _ _ (by omega) (by omega)) (by simp; omega) (by rw [size_swp])⟩
            case measure => simp [intOf]; omega
          | false =>
            rw [hlv] at hl
            have HLv := Lib.hid hlv
            clear hlv
            go_wp2_with (go_at_fn g; refine hl.mono ?_; rintro e w' ⟨rfl, q, os1, hw1⟩; have HSg := Lib.hid (HS.out.grown q os1); rw [← hw1] at HSg; clear hw1)
            go_roundw
            case rel => exact ⟨i + 1, dj, by go_num, by omega, by omega, hsj, Lib.hid (by rw [← HO.out, insOuter_go _ _ _ _ _ hlt, ← HI.out, insInner_stop _ _ _ _ (.inr HLv.out)]), HSg.out⟩
            case measure => simp [intOf]; omega
        · go_wp2
          go_roundw
          case rel => exact ⟨i + 1, dj, by go_num, by omega, by omega, hsj, Lib.hid (by rw [← HO.out, insOuter_go _ _ _ _ _ hlt, ← HI.out, insInner_stop _ _ _ _ (.inl (by omega))]), HS.out⟩
          case measure => simp [intOf]; omega
    · clear hsw
      go_wp2
      go_end0
      have he : dk = insertionSort lt d a b := by unfold insertionSort; rw [← HO.out, insOuter_stop _ _ _ _ _ hlt]
      exact ⟨rfl, dk, by rw [he]; exact HR.out, hsk, HF.out.unbox HS0.out hsk⟩
set_option maxHeartbeats 4000000 in
set_option maxRecDepth 100000 in
theorem St.stable_any (tr : ∀ x y z, T x y → T y z → T x z) (L : LaysGt.n15 P ρ) {d : Array α} {W : World} (F : Fam P g lb sf sb enc lt blk off d W) (n : Nat) (hn1 : n ≤ d.size) (hn2 : d.size ≤ n) (ht : Tst0 T lt (G d) 0 n) :
    Calls P (ρ.f 15) #[.agg #[.func (.func g) #[] lb, .func (.func sf) #[] sb], .int .i64 n] W (StLeaves enc blk off d W fun d' => PermIn 0 n d d' ∧ Srt T (G d') 0 n) := by
  have mixed := L.mixed; have t0 := L.t0; have a0 := L.a0; have z0 := L.z0; have v0 := L.v0; have t3 := L.t3; have a3 := L.a3; have z3 := L.z3; have v3 := L.v3; have t4 := L.t4; have a4 := L.a4; have z4 := L.z4; have v4 := L.v4; have t26 := L.t26; have a26 := L.a26; have z26 := L.z26; have v26 := L.v26; have t38 := L.t38; have a38 := L.a38; have z38 := L.z38; have v38 := L.v38; have t42 := L.t42; have a42 := L.a42; have z42 := L.z42; have v42 := L.v42; have t47 := L.t47; have a47 := L.a47; have z47 := L.z47; have v47 := L.v47
  have u42 := run_underlying L.t42
  have e29 : ∀ args w, (callFunc (ρ.f 29) args).run P w = .ok (.enter (ρ.f 29) args) w := enters_of L.f29 (by kernel_rfl) rfl
  have e30 : ∀ args w, (callFunc (ρ.f 30) args).run P w = .ok (.enter (ρ.f 30) args) w := enters_of L.f30 (by kernel_rfl) rfl
  have LI : LaysGt.n29 P ρ := { L with }
  have LM : LaysGt.n30 P ρ := { L with }
  have hsm := F.small
  have hblt := F.blt
  have HF := Lib.hid F
  have HT := Lib.hid ht
  have HIns := Lib.hid fun (dk : Array α) (wk : World) (F : Fam P g lb sf sb enc lt blk off dk wk) (a b : Nat) (h1 : a ≤ b) (h2 : b ≤ dk.size) h3 => St.insertion_any tr LI F a b h1 h2 h3
  have HMrg := Lib.hid fun (a m b : Nat) => St.symMerge_any (g := g) (sf := sf) (blk := blk) (off := off) (lb := lb) (sb := sb) (enc := enc) (lt := lt) tr LM (b - a) a m b rfl
  clear F ht tr
  go_enter L.f15, BodyGt.n15_ntmps ρ
  go_wp2
  go_loopw [5, 6] (fun av bv wr => ∃ (x : Nat) (dk : Array α), av = .int .i64 x ∧ bv = .int .i64 (x + 20 : Nat) ∧ Pass1 T d dk 20 n x ∧ SW enc (W.alloc (.cells #[.func (.func g) #[] lb, .func (.func sf) #[] sb] (ρ.t 42))) blk off dk wr) (fun av _ _ => n - (intOf av).toNat)
  case atStart => exact ⟨0, d, rfl, rfl, Pass1.start d 20 n, (HF.out.box _).start⟩
  case round =>
    obtain ⟨x, dk, rfl, rfl, hp1, hsw⟩ := hrel
    obtain ⟨c0, c1⟩ := sw_box hblt hsw
    have hxn := hp1.2.2.1
    have hsz : dk.size = d.size := hp1.1.1
    have hts : Tst0 T lt (G dk) x n := fun p q g1 g2 g3 => by
      rw [hp1.2.2.2.2 p g1, hp1.2.2.2.2 q (by omega)]; exact HT.out p q (by omega) g2 g3
    have HP1 := Lib.hid hp1
    have HS := Lib.hid hsw
    have HFk := Lib.hid ((HF.out.box (.cells #[.func (.func g) #[] lb, .func (.func sf) #[] sb] (ρ.t 42))).on hsw hsz)
    have HSZ := Lib.hid hsz
    by_cases hle : x + 20 ≤ n
    · have hc := HIns.out dk wr HFk.out x (x + 20) (by omega) (by omega) (hts.sub (Nat.le_refl _) hle)
      clear hp1 hsw hsz hts
      rw [show (((x + 20 : Nat) : Int)) = (x : Int) + 20 from by omega] at *
      go_wp2_with (go_at_fn (ρ.f 29); refine hc.mono ?_; rintro e w' ⟨rfl, d2, ⟨hp2, hm2⟩, hz2, hs2⟩; have HP2 := Lib.hid hp2; have HM2 := Lib.hid hm2; have HZ2 := Lib.hid hz2; have HS2 := Lib.hid hs2; clear hp2 hm2 hz2 hs2)
      go_roundw
      case rel => exact ⟨x + 20, d2, by go_num, by go_num, HP1.out.next hle hn1 HP2.out HM2.out, sw_tr HS.out HS2.out (by simp; omega) HZ2.out⟩
      case measure => simp [intOf]; omega
    · have hc := HIns.out dk wr HFk.out x n (by omega) (by omega) hts
      clear hp1 hsw hsz hts
      go_wp2_with (go_at_fn (ρ.f 29); refine hc.mono ?_; rintro e w' ⟨rfl, d2, ⟨hp2, hm2⟩, hz2, hs2⟩; have HA := Lib.hid (HP1.out.last (by omega) hn1 hp2 hm2); have HS2 := Lib.hid (sw_tr HS.out hs2 (by simp; omega) hz2); clear hp2 hm2 hz2 hs2)
      clear hc HFk HS HP1 HSZ
      go_loopw [4, 5, 6, 7] (fun sv _ _ _ wr => ∃ (s : Nat) (dk : Array α), sv = .int .i64 s ∧ 0 < s ∧ s ≤ 2 * n + 20 ∧ AllDone T d dk s n ∧ SW enc (W.alloc (.cells #[.func (.func g) #[] lb, .func (.func sf) #[] sb] (ρ.t 42))) blk off dk wr) (fun sv _ _ _ _ => 2 * n + 20 - (intOf sv).toNat)
      case atStart => exact ⟨20, d2, rfl, by omega, by omega, HA.out, HS2.out⟩
      case round =>
        obtain ⟨s, dk, rfl, hs0, hsn, hall, hsw⟩ := hrel
        obtain ⟨c0, c1⟩ := sw_box hblt hsw
        have HAl := Lib.hid hall
        have HS := Lib.hid hsw
        by_cases hlt : s < n
        · clear hall hsw c0 c1
          obtain ⟨wo, rfl⟩ : ∃ wo : World, wo = wr := ⟨_, rfl⟩
          go_wp2
          go_loopw [5, 6] (fun av bv wr => ∃ (x : Nat) (dk : Array α), av = .int .i64 x ∧ bv = .int .i64 ((x : Int) + 2 * (s : Int)) ∧ Pass2 T d dk s n x ∧ SW enc (W.alloc (.cells #[.func (.func g) #[] lb, .func (.func sf) #[] sb] (ρ.t 42))) blk off dk wr) (fun av _ _ => n - (intOf av).toNat)
          case atStart => exact ⟨0, dk, rfl, by congr 1 <;> omega, Pass2.start HAl.out, HS.out⟩
          case round =>
            obtain ⟨x, dk, rfl, rfl, hp1, hsw⟩ := hrel
            obtain ⟨c0, c1⟩ := sw_box hblt hsw
            have hxn := hp1.2.2.1
            have hsz : dk.size = d.size := hp1.1.1
            have HP1 := Lib.hid hp1
            have HS := Lib.hid hsw
            have HFk := Lib.hid ((HF.out.box (.cells #[.func (.func g) #[] lb, .func (.func sf) #[] sb] (ρ.t 42))).on hsw hsz)
            by_cases hle : x + 2 * s ≤ n
            · have hc : Calls P (ρ.f 30) #[.agg #[.func (.func g) #[] lb, .func (.func sf) #[] sb], .int .i64 x, .int .i64 ((x : Int) + s), .int .i64 ((x : Int) + 2 * s)] wr (StLeaves enc blk off dk wr fun d' => PermIn x (x + 2 * s) dk d' ∧ Srt T (G d') x (x + 2 * s)) := by
                obtain ⟨e1, e2⟩ := hp1.two (by omega) hs0
                rw [show min (x + 2 * s) n = x + 2 * s from by omega] at e2
                have := HMrg.out x (x + s) (x + 2 * s) dk wr HFk.out (by omega) (by omega) (by omega) e1.1 e2.1 (Done.tst HT.out e1 e2 (by omega))
                rw [show (((x + s : Nat) : Int)) = (x : Int) + s from by omega, show (((x + 2 * s : Nat) : Int)) = (x : Int) + 2 * s from by omega] at this
                exact this
              clear hp1 hsw hsz
              go_wp2_with (go_at_fn (ρ.f 30); refine hc.mono ?_; rintro e w' ⟨rfl, d2, ⟨hp2, hm2⟩, hz2, hs2⟩; have HP2 := Lib.hid hp2; have HM2 := Lib.hid hm2; have HZ2 := Lib.hid hz2; have HS2 := Lib.hid hs2; clear hp2 hm2 hz2 hs2)
              go_roundw
              case rel => exact ⟨x + 2 * s, d2, by congr 1 <;> omega, by congr 1 <;> omega, HP1.out.next hs0 hle hn1 HP2.out HM2.out, sw_tr HS.out HS2.out (by simp; omega) HZ2.out⟩
              case measure => simp [intOf]; omega
            · by_cases hm : x + s < n
              · have hc : Calls P (ρ.f 30) #[.agg #[.func (.func g) #[] lb, .func (.func sf) #[] sb], .int .i64 x, .int .i64 ((x : Int) + s), .int .i64 n] wr (StLeaves enc blk off dk wr fun d' => PermIn x n dk d' ∧ Srt T (G d') x n) := by
                  obtain ⟨e1, e2⟩ := hp1.two hm hs0
                  rw [show min (x + 2 * s) n = n from by omega] at e2
                  have := HMrg.out x (x + s) n dk wr HFk.out (by omega) (by omega) (by omega) e1.1 e2.1 (Done.tst HT.out e1 e2 (by omega))
                  rw [show (((x + s : Nat) : Int)) = (x : Int) + s from by omega] at this
                  exact this
                clear hp1 hsw hsz
                go_wp2_with (go_at_fn (ρ.f 30); refine hc.mono ?_; rintro e w' ⟨rfl, d2, ⟨hp2, hm2⟩, hz2, hs2⟩; have HP2 := Lib.hid (HP1.out.last hs0 (by omega) hm hn1 hp2 hm2); have HS2 := Lib.hid (sw_tr HS.out hs2 (by simp; omega) hz2); clear hp2 hm2 hz2 hs2)
                go_roundw
                case rel => exact ⟨2 * s, d2, by congr 1 <;> omega, by omega, by omega, HP2.out, HS2.out⟩
                case measure => simp [intOf]; omega
              · have HP2 := Lib.hid (hp1.none_ hs0 (by omega) (by omega))
                clear hp1 hsw hsz
                go_wp2
                go_roundw
                case rel => exact ⟨2 * s, dk, by congr 1 <;> omega, by omega, by omega, HP2.out, HS.out⟩
                case measure => simp [intOf]; omega
        · have hend := hall.end_ (by omega)
          have HE := Lib.hid hend
          clear hall hsw hend
          go_wp2
          go_end0
          exact ⟨rfl, dk, HE.out, HE.out.1.1, HF.out.unbox HS.out HE.out.1.1⟩
end Go.Proofs
