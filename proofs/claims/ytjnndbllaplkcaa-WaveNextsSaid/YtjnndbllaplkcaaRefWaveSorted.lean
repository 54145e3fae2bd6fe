/-
  Contract of the reference's waveSorted: the numbers of a range, sorted. Conditions: the wave can be read as data.
-/
import Derived.Test.YtjnndbllaplkcaaWaveBelow
import Derived.Test.YtjnndbllaplkcaaRefWaveRead
import Derived.Test.YtjnndbllaplkcaaRefWaveMay
import Derived.Test.YtjnndbllaplkcaaSortInts
import Derived.Deep.CutRange
namespace Go.Dam
open Go
theorem addr_add' (b off j : Nat) : (⟨b, off, none⟩ : Addr).add j = ⟨b, off + j, none⟩ := by unfold Addr.add; split <;> simp_all
end Go.Dam
namespace Go.Proofs.Ytjnndbllaplkcaa
open Go Go.RowKit Go.Dam
set_option linter.unusedVariables false
/-- What waveSorted answers. -/
def SortedR (rs : List (Int × List Nat)) (a b : Int) (l : List Int) (cc : Int) : Prop :=
  (FaultR rs a b cc ∧ cc ≠ 0 ∧ l = []) ∨ (MayWave rs ∧ cc = 0 ∧ ∃ n p q : Nat, lenW rs = n ∧ a = p ∧ b = q ∧ p ≤ q ∧ q ≤ n ∧ l = sW rs n p q)
theorem SortedR.ex (rs : List (Int × List Nat)) (a b : Int) : ∃ l cc, SortedR rs a b l cc ∧ FaultR rs a b cc := by
  obtain ⟨cc, h⟩ := FaultR.ex rs a b
  by_cases h0 : cc = 0
  · have hf := h
    rcases h with ⟨_, rfl⟩ | ⟨_, _, rfl⟩ | ⟨hm, ⟨p, q, rfl, rfl, hpq, hq⟩, _⟩
    · exact absurd h0 (by decide)
    · exact absurd h0 (by decide)
    · obtain ⟨n, hn, _⟩ := mayWave_len hm
      exact ⟨_, _, .inr ⟨hm, h0, n, p, q, hn, rfl, rfl, hpq, by omega, rfl⟩, hf⟩
  · exact ⟨_, _, .inl ⟨h, h0, rfl⟩, h⟩
set_option maxRecDepth 100000 in
set_option maxHeartbeats 4000000 in
theorem waveSorted_any (v : Value) (rs : List (Int × List Nat)) (a b : Int) (l : List Int) (cc : Int) (w : World) (B : Nat) (hB : B ≤ w.heap.size) (h : IsWave w B v rs) (ha : I64 a) (hb : I64 b) (hR : SortedR rs a b l cc) :
    Calls Try.prog 49 #[v, .int .i64 a, .int .i64 b] w (GivesInts l cc w) := by
  unfold I64 at ha hb
  have HMay := Lib.hid fun r hr W (hW : Below w.heap.size w W) => refWaveMay_any v rs r W B (Nat.le_trans hB hW.size) (h.below (hW.mono hB)) hr
  have HRd := Lib.hid fun n hm hn W (hW : Below w.heap.size w W) => refWaveRead_shape v rs n W B (Nat.le_trans hB hW.size) (h.below (hW.mono hB)) hm hn
  obtain ⟨s, rfl, h⟩ := h
  obtain ⟨A, c, vs, rfl, hc, hm, hn, _, _⟩ := h
  have HA := Lib.hid ((Below.refl w.heap.size w).alloc (Nat.le_refl _) (.cells #[.slice A rs.length c] 25))
  rcases hR with ⟨⟨hmw, rfl⟩ | ⟨hmw, hi, rfl⟩ | ⟨hmw, _, rfl⟩, h0, rfl⟩ | ⟨hmw, rfl, n, p, q, hln, rfl, rfl, hpq, hqn, rfl⟩
  · have HM := Lib.hid (HMay.out false (mayW_no hmw).symm _ HA.out)
    clear hmw HMay HRd
    go_enter Try.func49, Try.ntmps49
    go_wp2_with (go_at_call 71; refine (HM.out).mono ?_; rintro e w1 ⟨rfl, hb⟩)
    go_ret2
    exact ⟨_, rfl, isInts_nil _ _ _, below_box hb⟩
  · have HM := Lib.hid (HMay.out true (mayW_yes hmw).symm _ HA.out)
    obtain ⟨n, hln, hn300, hn0, hm21, hrow⟩ := mayWave_len hmw
    have HR := Lib.hid (HRd.out n hmw hln)
    have HL : Hid ((toInts (tab (valW n (rowsW rs) rs.length) n)).length = n) := Lib.hid (tabI_len _ _)
    rw [hln] at hi
    clear hmw HMay HRd hrow hln hn0 h0
    rcases hi with h1 | ⟨h1, h2⟩ | ⟨h1, h2, h3⟩
    all_goals
      go_enter Try.func49, Try.ntmps49
      go_wp2_with (first
        | (go_at_call 71; refine (HM.out).mono ?_; rintro e w1 ⟨rfl, hb⟩; have k0 := box1' hb; have HB1 := Lib.hid (below_box hb); clear hb)
        | (go_at_call 72; refine (HR.out _ HB1.out).mono ?_; rintro e w2 ⟨u, rfl, hu, hb2, _⟩; obtain ⟨Au, cu, hveq, _⟩ := hu; rw [HL.out] at hveq; subst hveq))
      go_ret2
      exact ⟨_, rfl, isInts_nil _ _ _, HB1.out.trans (hb2.mono HB1.out.size)⟩
  · exact absurd rfl h0
  · have HM := Lib.hid (HMay.out true (mayW_yes hmw).symm _ HA.out)
    obtain ⟨n', hln', hn300, hn0, hm21, hrow⟩ := mayWave_len hmw
    obtain rfl : n = n' := by omega
    have HR := Lib.hid (HRd.out n hmw hln)
    have HL : Hid ((toInts (tab (valW n (rowsW rs) rs.length) n)).length = n) := Lib.hid (tabI_len _ _)
    have HWf := Lib.hid (sW_wf (rs := rs) (n := n) (a := p) (b := q) hm21)
    have HSd := Lib.hid (sW_def rs n p q)
    have HSl := Lib.hid (sW_length rs hpq hqn)
    have HGl := Lib.hid (segW_length (f := valW n (rowsW rs) rs.length) hpq hqn)
    have HGg := Lib.hid fun j h => segW_get (f := valW n (rowsW rs) rs.length) (n := n) (a := p) (b := q) (j := j) h
    have h1 : ¬ (p : Int) < 0 := by omega
    have h2 : ¬ (q : Int) < (p : Int) := by omega
    have h3 : ¬ (n : Int) < (q : Int) := by omega
    clear hmw HMay HRd hrow hln hln' hn0
    generalize sW rs n p q = S at *
    generalize segW (valW n (rowsW rs) rs.length) n p q = G at *
    go_enter Try.func49, Try.ntmps49
    go_upto_region 6 with (first
      | (go_at_call 71; refine (HM.out).mono ?_; rintro e w1 ⟨rfl, hb⟩; have k0 := box1' hb; have HB1 := Lib.hid (below_box hb); clear hb)
      | (go_at_call 72; refine (HR.out _ HB1.out).mono ?_; rintro e w2 ⟨u, rfl, hu, hb2, hshape⟩; have HU := Lib.hid hu; obtain ⟨Au, cu, hveq, _⟩ := hu; rw [HL.out] at hveq; subst hveq; have HB2 := Lib.hid (HB1.out.trans (hb2.mono HB1.out.size))))
    obtain ⟨Au', cu', hveq, hcu, hcm, _, hru, _⟩ := HU.out
    obtain ⟨rfl, rfl⟩ : Au = Au' ∧ cu = cu' := by injection hveq with a _ b; exact ⟨a, b⟩
    rw [HL.out] at hcu
    have HRu := Lib.hid hru
    clear hveq hru HU HR HM
    have HOne : Hid (∀ y ∈ G.map (Value.int .i64), y.oneCell' = true) := Lib.hid fun y hy => by obtain ⟨z, _, rfl⟩ := List.mem_map.1 hy; rfl
    have HGm : Hid ((G.map (Value.int .i64)).length = (q - p) * 1) := Lib.hid (by rw [List.length_map, HGl.out]; omega)
    rcases Nat.lt_or_ge p q with hpq2 | hpq2
    · obtain ⟨bu, offu, rfl, _, hcell⟩ := ints_cells HRu.out (by rw [HL.out]; omega)
      have HNews : Hid (∀ j x, (G.map (Value.int .i64))[j]? = some x → w2.cell? ((⟨bu, offu + p, none⟩ : Addr).add j) = some x) := Lib.hid fun j x hx => by
        rw [List.getElem?_map] at hx
        have hj : j < q - p := by
          rcases Nat.lt_or_ge j (q - p) with h | h
          · exact h
          · rw [List.getElem?_eq_none (by rw [HGl.out]; exact h)] at hx; cases hx
        rw [HGg.out j hj] at hx
        rw [addr_add', Nat.add_assoc, hcell (p + j) (by rw [HL.out]; omega), ← hx]
        have : p + j < (toInts (tab (valW n (rowsW rs) rs.length) n)).length := by rw [HL.out]; omega
        rw [List.getD_eq_getElem?_getD, List.getElem?_eq_getElem this]; rfl
      have hne : ¬ cu = p := by omega
      clear hcell
      go_wp2_with (first
        | (at_builtin; refine wpList_pushM el_int rfl (.const (.slice none 0 0)) (.tmp 31) rfl w2.heap.size (.slice none 0 0) 0 [] (World.ownsRow_nil _ _ _ _) rfl _ _ _ (G.map (Value.int .i64)) rfl HGm.out HNews.out HOne.out (by omega) (by omega) (Nat.le_refl _) ?_; intro v' w3 hown3 hg3 hl3; rw [Nat.zero_add, List.nil_append] at hown3; obtain ⟨A3, c3, rfl⟩ := own_shape hown3; have HB3 := Lib.hid (below_push (Below.refl w2.heap.size w2) (World.ownsRow_nil w2 w2.heap.size 3 1) (Nat.le_refl _) (Nat.le_refl _) hg3))
        | (go_at_call 51; refine (sortInts_own (l := G) (base := w2.heap.size) hown3 (by omega)).mono ?_; rintro e w4 ⟨rfl, hown4, hg4⟩))
      go_ret2
      exact ⟨_, rfl, own_ints (by rw [HSd.out]; exact hown4) (by rw [HSl.out]; omega) HWf.out, HB2.out.trans ((HB3.out.trans (below_push (Below.refl w2.heap.size w3) hown3 (Nat.le_refl _) HB3.out.size hg4)).mono HB2.out.size)⟩
    · obtain rfl : p = q := by omega
      have HG0 : Hid (G = []) := Lib.hid (List.eq_nil_of_length_eq_zero (by rw [HGl.out]; omega))
      rw [Nat.sub_self] at HGm
      have HNews : Hid (∀ (ad : Addr) (j : Nat) (x : Value), (G.map (Value.int .i64))[j]? = some x → w2.cell? (ad.add j) = some x) := Lib.hid fun ad j x hx => by rw [HG0.out] at hx; cases hx
      obtain ⟨ii, hii, _, _, _⟩ := el_int.info
      rcases Classical.em (cu = p) with hcp | hcp
      all_goals
        cases Au
        · obtain ⟨hn0, hcu0⟩ : n = 0 ∧ cu = 0 := by
            rcases hshape with h | ⟨ad, k, c, h⟩
            · injection h with h4 h5 h6; exact ⟨h5, h6⟩
            · injection h with h4; cases h4
          obtain rfl : p = 0 := by omega
          subst hn0 hcu0
          go_wp2_with (first
            | (at_builtin; refine wpList_append_own_none rfl (.const (.slice none 0 0)) (.tmp 31) 22 rfl w2.heap.size 3 ii 1 el_int.ht hii (.slice none 0 0) 0 [] rfl (World.ownsRow_nil _ _ _ _) rfl ?_)
            | (go_at_call 51; refine (sortInts_own (l := []) (base := w2.heap.size) (e := 3) (World.ownsRow_nil _ _ _ _) (by omega)).mono ?_; rintro e w4 ⟨rfl, hown4, hg4⟩))
          go_ret2
          exact ⟨_, rfl, own_ints (by rw [HSd.out, HG0.out]; exact hown4) (by rw [HSl.out]; omega) HWf.out, HB2.out.trans ((below_push (Below.refl w2.heap.size w2) (World.ownsRow_nil w2 w2.heap.size 3 1) (Nat.le_refl _) (Nat.le_refl _) hg4).mono HB2.out.size)⟩
        · go_wp2_with (first
            | (at_builtin; refine wpList_pushM el_int rfl (.const (.slice none 0 0)) (.tmp 31) rfl w2.heap.size (.slice none 0 0) 0 [] (World.ownsRow_nil _ _ _ _) rfl _ 0 _ (G.map (Value.int .i64)) rfl (by rw [HG0.out]; rfl) (HNews.out _) HOne.out (by omega) (by omega) (Nat.le_refl _) ?_; intro v' w3 hown3 hg3 hl3; rw [Nat.add_zero, List.nil_append] at hown3; obtain ⟨A3, c3, rfl⟩ := own_shape hown3; have HB3 := Lib.hid (below_push (Below.refl w2.heap.size w2) (World.ownsRow_nil w2 w2.heap.size 3 1) (Nat.le_refl _) (Nat.le_refl _) hg3))
            | (go_at_call 51; refine (sortInts_own (l := G) (base := w2.heap.size) hown3 (by omega)).mono ?_; rintro e w4 ⟨rfl, hown4, hg4⟩))
          go_ret2
          exact ⟨_, rfl, own_ints (by rw [HSd.out]; exact hown4) (by rw [HSl.out]; omega) HWf.out, HB2.out.trans ((HB3.out.trans (below_push (Below.refl w2.heap.size w3) hown3 (Nat.le_refl _) HB3.out.size hg4)).mono HB2.out.size)⟩
end Go.Proofs.Ytjnndbllaplkcaa
