/-
  Contract of the reference's gamNext: a number from a bit on, and what is behind it. Conditions: the bits can be read as data.
-/
import Derived.Test.YteblkbgcnoepnaaGamReader
import Derived.Test.YteblkbgcnoepnaaGamDecode
import Derived.Deep.CutRange
namespace Go.Dam
open Go Go.RowKit
set_option linter.unusedVariables false
theorem bool_cell {w : World} {B : Nat} {A : Option Addr} {c : Nat} {l : List Bool} (h : IsBools w B (.slice A l.length c) l) (h0 : 0 < l.length) : l.length ≤ c ∧ ∃ b off, A = some ⟨b, off, none⟩ ∧ b < B ∧ ∀ k, k < l.length → w.cell? ⟨b, off + k, none⟩ = some (.bool (l.getD k false)) := by
  obtain ⟨A', c', hv, hc, hm, hn, hr⟩ := h
  obtain ⟨rfl, rfl⟩ : A = A' ∧ c = c' := by injection hv with a b c; exact ⟨a, c⟩
  exact ⟨hc, bools_at hr h0⟩
theorem IsBools.drop_ {w : World} {B : Nat} {b off c k : Nat} {l : List Bool} (h : IsBools w B (.slice (some ⟨b, off, none⟩) l.length c) l) (hk : k < l.length) : IsBools w B (.slice (some ⟨b, off + k, none⟩) (l.length - k) (c - k)) (l.drop k) := by
  obtain ⟨A', c', hv, hc, hm, hn, hr⟩ := h
  obtain ⟨rfl, rfl⟩ : some ⟨b, off, none⟩ = A' ∧ c = c' := by injection hv with a b c; exact ⟨a, c⟩
  have hl : (l.drop k).length = l.length - k := List.length_drop
  refine ⟨_, c - k, by rw [hl], by omega, by omega, by omega, ?_⟩
  obtain ⟨b', off', e, hb, hcells⟩ := bools_at hr (by omega)
  injection e with e
  injection e with e1 e2 e3
  subst e1 e2
  refine ⟨by simp, fun _ => ⟨_, rfl, hb, fun j u hu => ?_⟩⟩
  have hj : j < l.length - k := by
    rcases Nat.lt_or_ge j (l.length - k) with g | g
    · exact g
    · rw [List.getElem?_eq_none (by rw [List.length_map, hl]; exact g)] at hu; cases hu
  have e : (⟨b, off + k, none⟩ : Addr).add j = ⟨b, off + k + j, none⟩ := by unfold Addr.add; split <;> simp_all
  rw [e, Nat.add_assoc, hcells (k + j) (by omega), ← hu]
  rw [List.getElem?_map, List.getElem?_drop]
  simp [show k + j < l.length by omega]
theorem isBools_nil (w : World) (B : Nat) (A : Option Addr) (c : Nat) (hc : c ≤ maxLen) : IsBools w B (.slice A 0 c) [] :=
  ⟨A, c, rfl, Nat.zero_le _, hc, by simp, ⟨by simp, fun h => absurd h (by simp)⟩⟩
theorem bools_cells {w : World} {B : Nat} {b off c : Nat} {l : List Bool} (h : IsBools w B (.slice (some ⟨b, off, none⟩) l.length c) l) : l.length ≤ c ∧ c ≤ maxLen ∧ ∀ k, k < l.length → w.cell? ⟨b, off + k, none⟩ = some (.bool (l.getD k false)) := by
  obtain ⟨A', c', hv, hc, hm, hn, hr⟩ := h
  obtain ⟨rfl, rfl⟩ : some ⟨b, off, none⟩ = A' ∧ c = c' := by injection hv with a b c; exact ⟨a, c⟩
  refine ⟨hc, hm, fun k hk => ?_⟩
  obtain ⟨b', off', e, hb, hcells⟩ := bools_at hr (by omega)
  injection e with e
  injection e with e1 e2 e3
  subst e1 e2
  exact hcells k hk
theorem IsBools.tail_ {w : World} {B : Nat} {b off c k c' m : Nat} {A : Option Addr} {l : List Bool} (h : IsBools w B (.slice (some ⟨b, off, none⟩) l.length c) l) (hk : k ≤ l.length) (hm : m = l.length - k) (hA : k < l.length → A = some ⟨b, off + k, none⟩ ∧ c' = c - k) (hc' : c' ≤ maxLen) : IsBools w B (.slice A m c') (l.drop k) := by
  subst hm
  rcases Nat.lt_or_eq_of_le hk with h1 | h1
  · obtain ⟨rfl, rfl⟩ := hA h1
    exact h.drop_ h1
  · rw [h1, Nat.sub_self, List.drop_length]
    exact isBools_nil _ _ _ _ hc'
theorem valB_small {l : List Bool} {t : Nat} (h : t ≤ 20) : valB 1 (l.take t) < 2097152 := by
  have h1 := valB_bound (l.take t) 1
  have h2 : (l.take t).length ≤ t := by rw [List.length_take]; omega
  have h3 : 2 ^ (l.take t).length ≤ 2 ^ 20 := Nat.pow_le_pow_right (by decide) (by omega)
  omega
theorem valB_step {l : List Bool} {t : Nat} (h : t < l.length) : valB 1 (l.take (t + 1)) = 2 * valB 1 (l.take t) + (l.getD t false).toNat := by
  rw [List.take_add_one, List.getElem?_eq_getElem h, List.getD_eq_getElem?_getD, List.getElem?_eq_getElem h]
  exact valB_snoc _ _ _
end Go.Dam
namespace Go.Proofs.Yteblkbgcnoepnaa
open Go Go.RowKit Go.Dam
set_option linter.unusedVariables false
/-- What gamNext answers. -/
def NextOut (B x : Nat) (rest : List Bool) (cc : Int) (w : World) (u : Ending) (w' : World) : Prop := ∃ v, u = .returned (.tuple #[.int .i64 x, v, .int .i64 cc]) ∧ IsBools w' B v rest ∧ Drawn w w'
set_option maxRecDepth 100000 in
set_option maxHeartbeats 1000000 in
theorem refGamNext_1 (v : Value) (l : List Bool) (w : World) (B x : Nat) (rest : List Bool) (cc : Int) (h : IsBools w B v l) (hR : Next1 l x rest cc) :
    Calls Try.prog 55 #[.int .i64 1, v] w (NextOut B x rest cc w) := by
  have h0 := h
  obtain ⟨A, c, rfl, hc, hm, hn, hr⟩ := h
  have HI := Lib.hid h0
  have HR := Lib.hid hR
  clear h0 hR
  go_enter Try.func55, Try.ntmps55
  go_wp2_with fail
  go_loop [7] (fun zv => ∃ z : Nat, z ≤ l.length ∧ z < 21 ∧ zv = .int .i64 z ∧ ∀ j, j < z → l.getD j false = false) (fun zv => l.length - (intOf zv).toNat)
  case atStart => exact ⟨0, by omega, by omega, rfl, fun j hj => absurd hj (by omega)⟩
  case round =>
    obtain ⟨z, hz, hz2, rfl, hall⟩ := hrel
    have HAll := Lib.hid hall
    by_cases hlt : z < l.length
    · obtain ⟨_, b, off, rfl, hb, hcells⟩ := bool_cell HI.out (by omega)
      have k2 := hcells z hlt
      cases hbit : l.getD z false with
      | false =>
        rw [hbit] at k2
        have HAll2 : Hid (∀ j, j < z + 1 → l.getD j false = false) := Lib.hid fun j hj => by
          rcases Nat.lt_or_eq_of_le (Nat.le_of_lt_succ hj) with g | g
          · exact HAll.out j g
          · rw [g]; exact hbit
        by_cases h21 : z + 1 = 21
        · have hz20 : z = 20 := by omega
          subst hz20
          have hge := zerosB_ge l 21 (by omega) HAll2.out
          have HRes : Hid (x = 0 ∧ rest = [] ∧ cc = 2) := Lib.hid (by
            rcases HR.out with ⟨_, rfl, rfl, rfl⟩ | ⟨h, _⟩ | ⟨h, _⟩
            · exact ⟨rfl, rfl, rfl⟩
            · omega
            · omega)
          obtain ⟨rfl, rfl, rfl⟩ := HRes.out
          clear hcells hall hbit hge HR
          go_wp2_with fail
          go_ret3
          exact ⟨_, rfl, isBools_nil _ _ _ _ (by unfold maxLen; omega), Drawn.refl _⟩
        · have hne : ((z : Int) + 1 == 21) = false := by simp; omega
          clear hcells hall hbit
          go_wp2_with fail
          go_round
          case rel => exact ⟨z + 1, by omega, by omega, by go_num, HAll2.out⟩
          case measure => simp [intOf]; omega
      | true =>
        rw [hbit] at k2
        have hzb := zerosB_is l z hlt hbit HAll.out
        have hNum : NumB z (l.drop (z + 1)) x rest cc := by
          rcases HR.out with ⟨h, _⟩ | ⟨_, h, _⟩ | ⟨_, _, h⟩
          · omega
          · omega
          · rw [hzb] at h; exact h
        have hne : ((z : Int) == (l.length : Int)) = false := by simp; omega
        have hql : (l.drop (z + 1)).length = l.length - (z + 1) := List.length_drop
        have hle1 : (z : Int) + 1 ≤ (l.length : Int) := by omega
        obtain ⟨hmc, hmx, hcs⟩ := bools_cells HI.out
        have hz20 : z ≤ 20 := by omega
        rcases (Classical.em (c = z + 1)) with hcase | hcase
        · have HQ : Hid (IsBools w B (.slice (some ⟨b, off, none⟩) (l.drop (z + 1)).length 0) (l.drop (z + 1))) := Lib.hid (by rw [hql]; exact HI.out.tail_ (by omega) rfl (fun h => by exfalso; omega) (Nat.zero_le _))
          have HC := Lib.hid (bools_cells HQ.out).2.2
          clear hcells hall hbit hzb HR hcs
          go_upto_region 17 with fail
          rw [← hql]
          generalize l.drop (z + 1) = q at *
          generalize hm2 : q.length = m at *
          obtain ⟨c1, hc1⟩ : ∃ c1 : Nat, c1 = 0 := ⟨0, rfl⟩
          rw [← hc1] at HQ ⊢
          have hm0 : m ≤ c1 := by omega
          have hcm : c1 ≤ maxLen := by omega
          obtain ⟨b2, rfl⟩ : ∃ b2, b2 = b := ⟨_, rfl⟩
          obtain ⟨off2, rfl⟩ : ∃ off2, off2 = off := ⟨_, rfl⟩
          clear hc1
          have HM2 := Lib.hid hm2
          clear hm2 hql hr hne k2 HAll hlt hcase hle1 hmc hmx
          rcases hNum with ⟨hs, rfl, rfl, rfl⟩ | ⟨hf, hbig, rfl, rfl, rfl⟩ | ⟨hf, hbig, rfl, rfl, rfl⟩
          · have hs' : m < z := by rw [← HM2.out]; exact hs
            clear hs HQ
            go_wp2_with fail
            go_ret3
            exact ⟨_, rfl, isBools_nil _ _ _ _ (by unfold maxLen; omega), Drawn.refl _⟩
          · have hf' : ¬ m < z := by rw [← HM2.out]; omega
            have hzc : z ≤ c1 := by omega
            have HBig := Lib.hid hbig
            have hbig2 := valB_small (l := q) (t := z) (by omega)
            clear hbig hf
            go_wp2_with fail
            go_loop [11, 61] (fun xv kv => ∃ t : Nat, t ≤ z ∧ kv = .int .i64 t ∧ xv = .int .i64 ((valB 1 (q.take t) : Nat) : Int)) (fun _ kv => z - (intOf kv).toNat)
            case atStart => exact ⟨0, by omega, rfl, by rw [List.take_zero, valB_nil]; rfl⟩
            case round =>
              obtain ⟨t, ht, rfl, rfl⟩ := hrel
              by_cases htz : t < z
              · have k2 := HC.out t (by omega)
                have hvs := valB_small (l := q) (t := t) (by omega)
                have HVS := Lib.hid (valB_step (l := q) (t := t) (by rw [HM2.out]; omega))
                generalize valB 1 (q.take t) = xt at *
                cases hbt : q.getD t false
                all_goals
                  rw [hbt] at k2 HVS
                  clear hbt
                  go_wp2_with fail
                  go_round
                  case rel => exact ⟨t + 1, by omega, by go_num, by rw [HVS.out]; go_num⟩
                  case measure => simp [intOf]; omega
              · obtain rfl : t = z := by omega
                have hbig := HBig.out
                generalize valB 1 (q.take t) = xt at *
                go_wp2_with fail
                go_ret3
                exact ⟨_, rfl, isBools_nil _ _ _ _ (by unfold maxLen; omega), Drawn.refl _⟩
          · have hf' : ¬ m < z := by rw [← HM2.out]; omega
            have hzc : z ≤ c1 := by omega
            have HBig := Lib.hid hbig
            have hbig2 := valB_small (l := q) (t := z) (by omega)
            clear hbig hf
            go_wp2_with fail
            go_loop [11, 61] (fun xv kv => ∃ t : Nat, t ≤ z ∧ kv = .int .i64 t ∧ xv = .int .i64 ((valB 1 (q.take t) : Nat) : Int)) (fun _ kv => z - (intOf kv).toNat)
            case atStart => exact ⟨0, by omega, rfl, by rw [List.take_zero, valB_nil]; rfl⟩
            case round =>
              obtain ⟨t, ht, rfl, rfl⟩ := hrel
              by_cases htz : t < z
              · have k2 := HC.out t (by omega)
                have hvs := valB_small (l := q) (t := t) (by omega)
                have HVS := Lib.hid (valB_step (l := q) (t := t) (by rw [HM2.out]; omega))
                generalize valB 1 (q.take t) = xt at *
                cases hbt : q.getD t false
                all_goals
                  rw [hbt] at k2 HVS
                  clear hbt
                  go_wp2_with fail
                  go_round
                  case rel => exact ⟨t + 1, by omega, by go_num, by rw [HVS.out]; go_num⟩
                  case measure => simp [intOf]; omega
              · obtain rfl : t = z := by omega
                have hbig := HBig.out
                generalize valB 1 (q.take t) = xt at *
                have hbn : ¬ 1048576 < xt := by omega
                rcases Classical.em (c1 = t) with hct | hct
                · have HT : Hid (IsBools w B (.slice (some ⟨b2, off2, none⟩) (m - t) 0) (q.drop t)) := Lib.hid (IsBools.tail_ (l := q) (by rw [HM2.out]; exact HQ.out) (by rw [HM2.out]; omega) (by rw [HM2.out]) (fun h => by rw [HM2.out] at h; exfalso; omega) (Nat.zero_le _))
                  go_wp2_with fail
                  go_quiet (fail)
                  go_wp2_with fail
                  go_ret3
                  exact ⟨_, rfl, HT.out.below (below_drewN (Below.refl _ _) _), Drawn.drewN (Drawn.refl _) _⟩
                · have HT : Hid (IsBools w B (.slice (some ⟨b2, off2 + t, none⟩) (m - t) (c1 - t)) (q.drop t)) := Lib.hid (IsBools.tail_ (l := q) (by rw [HM2.out]; exact HQ.out) (by rw [HM2.out]; omega) (by rw [HM2.out]) (fun h => ⟨rfl, rfl⟩) (by omega))
                  go_wp2_with fail
                  go_quiet (fail)
                  go_wp2_with fail
                  go_ret3
                  exact ⟨_, rfl, HT.out.below (below_drewN (Below.refl _ _) _), Drawn.drewN (Drawn.refl _) _⟩
        · have HQ : Hid (IsBools w B (.slice (some ⟨b, off + (z + 1), none⟩) (l.drop (z + 1)).length (c - (z + 1))) (l.drop (z + 1))) := Lib.hid (by rw [hql]; exact HI.out.tail_ (by omega) rfl (fun h => ⟨rfl, rfl⟩) (by omega))
          have HC := Lib.hid (bools_cells HQ.out).2.2
          have hm0' : (l.drop (z + 1)).length ≤ c - (z + 1) := by omega
          have hcm' : c - (z + 1) ≤ maxLen := by omega
          clear hcells hall hbit hzb HR hcs
          go_upto_region 17 with fail
          rw [← hql]
          generalize l.drop (z + 1) = q at *
          generalize hm2 : q.length = m at *
          generalize off + (z + 1) = off2 at *
          generalize c - (z + 1) = c1 at *
          obtain ⟨b2, rfl⟩ : ∃ b2, b2 = b := ⟨_, rfl⟩
          have hm0 : m ≤ c1 := hm0'
          have hcm : c1 ≤ maxLen := hcm'
          clear hm0' hcm'
          have HM2 := Lib.hid hm2
          clear hm2 hql hr hne k2 HAll hlt hcase hle1 hmc hmx
          rcases hNum with ⟨hs, rfl, rfl, rfl⟩ | ⟨hf, hbig, rfl, rfl, rfl⟩ | ⟨hf, hbig, rfl, rfl, rfl⟩
          · have hs' : m < z := by rw [← HM2.out]; exact hs
            clear hs HQ
            go_wp2_with fail
            go_ret3
            exact ⟨_, rfl, isBools_nil _ _ _ _ (by unfold maxLen; omega), Drawn.refl _⟩
          · have hf' : ¬ m < z := by rw [← HM2.out]; omega
            have hzc : z ≤ c1 := by omega
            have HBig := Lib.hid hbig
            have hbig2 := valB_small (l := q) (t := z) (by omega)
            clear hbig hf
            go_wp2_with fail
            go_loop [11, 61] (fun xv kv => ∃ t : Nat, t ≤ z ∧ kv = .int .i64 t ∧ xv = .int .i64 ((valB 1 (q.take t) : Nat) : Int)) (fun _ kv => z - (intOf kv).toNat)
            case atStart => exact ⟨0, by omega, rfl, by rw [List.take_zero, valB_nil]; rfl⟩
            case round =>
              obtain ⟨t, ht, rfl, rfl⟩ := hrel
              by_cases htz : t < z
              · have k2 := HC.out t (by omega)
                have hvs := valB_small (l := q) (t := t) (by omega)
                have HVS := Lib.hid (valB_step (l := q) (t := t) (by rw [HM2.out]; omega))
                generalize valB 1 (q.take t) = xt at *
                cases hbt : q.getD t false
                all_goals
                  rw [hbt] at k2 HVS
                  clear hbt
                  go_wp2_with fail
                  go_round
                  case rel => exact ⟨t + 1, by omega, by go_num, by rw [HVS.out]; go_num⟩
                  case measure => simp [intOf]; omega
              · obtain rfl : t = z := by omega
                have hbig := HBig.out
                generalize valB 1 (q.take t) = xt at *
                go_wp2_with fail
                go_ret3
                exact ⟨_, rfl, isBools_nil _ _ _ _ (by unfold maxLen; omega), Drawn.refl _⟩
          · have hf' : ¬ m < z := by rw [← HM2.out]; omega
            have hzc : z ≤ c1 := by omega
            have HBig := Lib.hid hbig
            have hbig2 := valB_small (l := q) (t := z) (by omega)
            clear hbig hf
            go_wp2_with fail
            go_loop [11, 61] (fun xv kv => ∃ t : Nat, t ≤ z ∧ kv = .int .i64 t ∧ xv = .int .i64 ((valB 1 (q.take t) : Nat) : Int)) (fun _ kv => z - (intOf kv).toNat)
            case atStart => exact ⟨0, by omega, rfl, by rw [List.take_zero, valB_nil]; rfl⟩
            case round =>
              obtain ⟨t, ht, rfl, rfl⟩ := hrel
              by_cases htz : t < z
              · have k2 := HC.out t (by omega)
                have hvs := valB_small (l := q) (t := t) (by omega)
                have HVS := Lib.hid (valB_step (l := q) (t := t) (by rw [HM2.out]; omega))
                generalize valB 1 (q.take t) = xt at *
                cases hbt : q.getD t false
                all_goals
                  rw [hbt] at k2 HVS
                  clear hbt
                  go_wp2_with fail
                  go_round
                  case rel => exact ⟨t + 1, by omega, by go_num, by rw [HVS.out]; go_num⟩
                  case measure => simp [intOf]; omega
              · obtain rfl : t = z := by omega
                have hbig := HBig.out
                generalize valB 1 (q.take t) = xt at *
                have hbn : ¬ 1048576 < xt := by omega
                rcases Classical.em (c1 = t) with hct | hct
                · have HT : Hid (IsBools w B (.slice (some ⟨b2, off2, none⟩) (m - t) 0) (q.drop t)) := Lib.hid (IsBools.tail_ (l := q) (by rw [HM2.out]; exact HQ.out) (by rw [HM2.out]; omega) (by rw [HM2.out]) (fun h => by rw [HM2.out] at h; exfalso; omega) (Nat.zero_le _))
                  go_wp2_with fail
                  go_quiet (fail)
                  go_wp2_with fail
                  go_ret3
                  exact ⟨_, rfl, HT.out.below (below_drewN (Below.refl _ _) _), Drawn.drewN (Drawn.refl _) _⟩
                · have HT : Hid (IsBools w B (.slice (some ⟨b2, off2 + t, none⟩) (m - t) (c1 - t)) (q.drop t)) := Lib.hid (IsBools.tail_ (l := q) (by rw [HM2.out]; exact HQ.out) (by rw [HM2.out]; omega) (by rw [HM2.out]) (fun h => ⟨rfl, rfl⟩) (by omega))
                  go_wp2_with fail
                  go_quiet (fail)
                  go_wp2_with fail
                  go_ret3
                  exact ⟨_, rfl, HT.out.below (below_drewN (Below.refl _ _) _), Drawn.drewN (Drawn.refl _) _⟩
    · obtain rfl : z = l.length := by omega
      have hzb : zerosB l = l.length := by
        have h1 := zerosB_ge l l.length (Nat.le_refl _) HAll.out
        have h2 := zerosB_le l
        omega
      have HRes : Hid (x = 0 ∧ rest = [] ∧ cc = 5) := Lib.hid (by
        rcases HR.out with ⟨h, _⟩ | ⟨_, _, rfl, rfl, rfl⟩ | ⟨_, h, _⟩
        · omega
        · exact ⟨rfl, rfl, rfl⟩
        · omega)
      obtain ⟨rfl, rfl, rfl⟩ := HRes.out
      clear hall hzb HR
      go_wp2_with fail
      go_ret3
      exact ⟨_, rfl, isBools_nil _ _ _ _ (by unfold maxLen; omega), Drawn.refl _⟩
set_option maxRecDepth 100000 in
set_option maxHeartbeats 1000000 in
theorem refGamNext_2 (v : Value) (l : List Bool) (w : World) (B x : Nat) (rest : List Bool) (cc : Int) (h : IsBools w B v l) (hR : NextR 2 l x rest cc) :
    Calls Try.prog 55 #[.int .i64 2, v] w (NextOut B x rest cc w) := by
  rcases hR with ⟨h2, _⟩ | ⟨_, y, q, f, h1, hc⟩
  · exact absurd rfl h2
  have H1 := Lib.hid (refGamNext_1 v l w B y q f h h1)
  have hfact := h1.fact
  obtain ⟨A, c, rfl, _, _, _, _⟩ := h
  rcases hc with ⟨hf, rfl, rfl, rfl⟩ | ⟨rfl, hy, rfl, rfl, rfl⟩ | ⟨rfl, hy, hNum⟩
  · have hd1 : (cc != 0) = true := by simpa using hf
    clear hfact h1 hf
    go_enter Try.func55, Try.ntmps55
    go_wp2_with (go_at_call 55; refine (H1.out).mono ?_; rintro e w1 ⟨v1, rfl, hv1, hd⟩; obtain ⟨A1, c1, rfl, _⟩ := hv1)
    go_ret3
    exact ⟨_, rfl, isBools_nil _ _ _ _ (by unfold maxLen; omega), hd⟩
  · have hyb := (hfact.1 rfl).2.1
    clear hfact h1
    go_enter Try.func55, Try.ntmps55
    go_wp2_with (go_at_call 55; refine (H1.out).mono ?_; rintro e w1 ⟨v1, rfl, hv1, hd⟩; obtain ⟨A1, c1, rfl, _⟩ := hv1)
    go_ret3
    exact ⟨_, rfl, isBools_nil _ _ _ _ (by unfold maxLen; omega), hd⟩
  · obtain ⟨z, rfl⟩ : ∃ z, y = z + 1 := ⟨y - 1, by have := (hfact.1 rfl).1; omega⟩
    rw [show z + 1 - 1 = z from rfl] at hNum
    have hz20 : z ≤ 20 := by omega
    have hy2 : ¬ 21 < ((z : Int) + 1) := by omega
    clear hfact h1 hy
    go_enter Try.func55, Try.ntmps55
    go_upto_region 17 with (go_at_call 55; refine (H1.out).mono ?_; rintro e w1 ⟨v1, rfl, hv1, hd⟩; have HV1 := Lib.hid hv1; obtain ⟨A1, c1, rfl, _⟩ := hv1)
    obtain ⟨A1', c1', hv, hm0, hcm, hn, hr⟩ := HV1.out
    obtain ⟨rfl, rfl⟩ : A1 = A1' ∧ c1 = c1' := by injection hv with a b c; exact ⟨a, c⟩
    generalize hm2 : q.length = m at *
    have HM2 := Lib.hid hm2
    rcases Nat.eq_zero_or_pos m with h0 | h0
    · subst h0
      obtain rfl : q = [] := List.length_eq_zero_iff.1 hm2
      clear HV1 hr hm2 HM2 hv
      rcases hNum with ⟨hs, rfl, rfl, rfl⟩ | ⟨hf, hbig, rfl, rfl, rfl⟩ | ⟨hf, hbig, rfl, rfl, rfl⟩
      · have hs' : 0 < z := hs
        go_wp2_with fail
        go_ret3
        exact ⟨_, rfl, isBools_nil _ _ _ _ (by unfold maxLen; omega), hd⟩
      · obtain rfl : z = 0 := by simpa using hf
        rw [List.take_zero, valB_nil] at hbig
        exact absurd hbig (by decide)
      · obtain rfl : z = 0 := by simpa using hf
        rw [List.drop_zero]
        generalize hX : valB 1 (([] : List Bool).take 0) = X at *
        rw [List.take_zero, valB_nil] at hX
        have HX : Hid (X = 1) := Lib.hid hX.symm
        clear hX hbig hf
        rcases (Classical.em (c1 = 0)) with hc0 | hc0
        all_goals
          cases A1
          all_goals
            go_wp2_with fail
            go_loop [11, 61] (fun xv kv => xv = .int .i64 (X : Int) ∧ kv = .int .i64 0) (fun _ _ => 0)
            case atStart => exact ⟨by rw [HX.out]; rfl, rfl⟩
            case round =>
              obtain ⟨rfl, rfl⟩ := hrel
              have hX1 : ¬ 1048576 < X := by rw [HX.out]; decide
              have hX2 : X < 2097152 := by rw [HX.out]; decide
              go_wp2_with fail
              go_quiet (fail)
              go_wp2_with fail
              go_ret3
              exact ⟨_, rfl, isBools_nil _ _ _ _ (by omega), hd.drewN _⟩
    · obtain ⟨b2, off2, rfl, _, _⟩ := bools_at (l := q) (by rw [HM2.out]; exact hr) (by rw [HM2.out]; exact h0)
      have HQ : Hid (IsBools w1 B (.slice (some ⟨b2, off2, none⟩) m c1) q) := HV1
      have HC := Lib.hid (bools_cells (l := q) (by rw [HM2.out]; exact HQ.out)).2.2
      rw [HM2.out] at HC
      clear HV1 hr hm2 hv
      rcases hNum with ⟨hs, rfl, rfl, rfl⟩ | ⟨hf, hbig, rfl, rfl, rfl⟩ | ⟨hf, hbig, rfl, rfl, rfl⟩
      · have hs' : m < z := by rw [← HM2.out]; exact hs
        clear hs HQ
        go_wp2_with fail
        go_ret3
        exact ⟨_, rfl, isBools_nil _ _ _ _ (by unfold maxLen; omega), hd⟩
      · have hf' : ¬ m < z := by rw [← HM2.out]; omega
        have hzc : z ≤ c1 := by omega
        have HBig := Lib.hid hbig
        have hbig2 := valB_small (l := q) (t := z) (by omega)
        clear hbig hf
        go_wp2_with fail
        go_loop [11, 61] (fun xv kv => ∃ t : Nat, t ≤ z ∧ kv = .int .i64 t ∧ xv = .int .i64 ((valB 1 (q.take t) : Nat) : Int)) (fun _ kv => z - (intOf kv).toNat)
        case atStart => exact ⟨0, by omega, rfl, by rw [List.take_zero, valB_nil]; rfl⟩
        case round =>
          obtain ⟨t, ht, rfl, rfl⟩ := hrel
          by_cases htz : t < z
          · have k2 := HC.out t (by omega)
            have hvs := valB_small (l := q) (t := t) (by omega)
            have HVS := Lib.hid (valB_step (l := q) (t := t) (by rw [HM2.out]; omega))
            generalize valB 1 (q.take t) = xt at *
            cases hbt : q.getD t false
            all_goals
              rw [hbt] at k2 HVS
              clear hbt
              go_wp2_with fail
              go_round
              case rel => exact ⟨t + 1, by omega, by go_num, by rw [HVS.out]; go_num⟩
              case measure => simp [intOf]; omega
          · obtain rfl : t = z := by omega
            have hbig := HBig.out
            generalize valB 1 (q.take t) = xt at *
            go_wp2_with fail
            go_ret3
            exact ⟨_, rfl, isBools_nil _ _ _ _ (by unfold maxLen; omega), hd⟩
      · have hf' : ¬ m < z := by rw [← HM2.out]; omega
        have hzc : z ≤ c1 := by omega
        have HBig := Lib.hid hbig
        have hbig2 := valB_small (l := q) (t := z) (by omega)
        clear hbig hf
        go_wp2_with fail
        go_loop [11, 61] (fun xv kv => ∃ t : Nat, t ≤ z ∧ kv = .int .i64 t ∧ xv = .int .i64 ((valB 1 (q.take t) : Nat) : Int)) (fun _ kv => z - (intOf kv).toNat)
        case atStart => exact ⟨0, by omega, rfl, by rw [List.take_zero, valB_nil]; rfl⟩
        case round =>
          obtain ⟨t, ht, rfl, rfl⟩ := hrel
          by_cases htz : t < z
          · have k2 := HC.out t (by omega)
            have hvs := valB_small (l := q) (t := t) (by omega)
            have HVS := Lib.hid (valB_step (l := q) (t := t) (by rw [HM2.out]; omega))
            generalize valB 1 (q.take t) = xt at *
            cases hbt : q.getD t false
            all_goals
              rw [hbt] at k2 HVS
              clear hbt
              go_wp2_with fail
              go_round
              case rel => exact ⟨t + 1, by omega, by go_num, by rw [HVS.out]; go_num⟩
              case measure => simp [intOf]; omega
          · obtain rfl : t = z := by omega
            have hbig := HBig.out
            generalize valB 1 (q.take t) = xt at *
            have hbn : ¬ 1048576 < xt := by omega
            rcases Classical.em (c1 = t) with hct | hct
            · have HT : Hid (IsBools w1 B (.slice (some ⟨b2, off2, none⟩) (m - t) 0) (q.drop t)) := Lib.hid (IsBools.tail_ (l := q) (by rw [HM2.out]; exact HQ.out) (by rw [HM2.out]; omega) (by rw [HM2.out]) (fun h => by rw [HM2.out] at h; exfalso; omega) (Nat.zero_le _))
              go_wp2_with fail
              go_quiet (fail)
              go_wp2_with fail
              go_ret3
              exact ⟨_, rfl, HT.out.below (below_drewN (Below.refl _ _) _), hd.drewN _⟩
            · have HT : Hid (IsBools w1 B (.slice (some ⟨b2, off2 + t, none⟩) (m - t) (c1 - t)) (q.drop t)) := Lib.hid (IsBools.tail_ (l := q) (by rw [HM2.out]; exact HQ.out) (by rw [HM2.out]; omega) (by rw [HM2.out]) (fun h => ⟨rfl, rfl⟩) (by omega))
              go_wp2_with fail
              go_quiet (fail)
              go_wp2_with fail
              go_ret3
              exact ⟨_, rfl, HT.out.below (below_drewN (Below.refl _ _) _), hd.drewN _⟩
end Go.Proofs.Yteblkbgcnoepnaa
