/-
  Contract of the reference's PackMake: bit by bit the words of a list of numbers, or why there are none. Conditions: the list can be read as data.
-/
import Derived.Test.YteblkbgcnoepnaaPackMake
import Derived.Test.YteblkbgcnoepnaaRefBitsMake
namespace Go.Proofs.Yteblkbgcnoepnaa
open Go Go.RowKit Go.Dam
set_option linter.unusedVariables false

set_option maxHeartbeats 400000 in
theorem refPackMake_long (v : Value) (m : Int) (l : List Int) (w : World) (B : Nat) (h : IsInts .i64 w B v l) (hl : 300 < l.length) :
    Calls Try.prog 59 #[.int .i64 m, v] w (GivesPacked 0 0 [] 1 w) := by
  obtain ⟨A, c, rfl, hc, hcm, hb, hr, hw⟩ := h
  go_enter Try.func59, Try.ntmps59
  go_wp2_with fail
  exact bodyPost_ret (v := .tuple #[.agg #[.int .i64 0, .int .i64 0, .slice none 0 0], .int .i64 1]) (by simp [results, Try.results59, go_sem]) rfl ⟨_, rfl, isWords_nil _ _, (Below.refl _ _).alloc (Nat.le_refl _) _⟩
set_option maxHeartbeats 400000 in
theorem refPackMake_width (v : Value) (m : Int) (l : List Int) (w : World) (B : Nat) (h : IsInts .i64 w B v l) (hl : l.length ≤ 300) (hm : I64 m) (hm' : m < 0 ∨ 62 < m) :
    Calls Try.prog 59 #[.int .i64 m, v] w (GivesPacked 0 0 [] 2 w) := by
  obtain ⟨A, c, rfl, hc, hcm, hb, hr, hw⟩ := h
  unfold I64 at hm
  rcases hm' with h | h
  · go_enter Try.func59, Try.ntmps59
    go_wp2_with fail
    exact bodyPost_ret (v := .tuple #[.agg #[.int .i64 0, .int .i64 0, .slice none 0 0], .int .i64 2]) (by simp [results, Try.results59, go_sem]) rfl ⟨_, rfl, isWords_nil _ _, (Below.refl _ _).alloc (Nat.le_refl _) _⟩
  · have h' : ¬ m < 0 := by omega
    go_enter Try.func59, Try.ntmps59
    go_wp2_with fail
    exact bodyPost_ret (v := .tuple #[.agg #[.int .i64 0, .int .i64 0, .slice none 0 0], .int .i64 2]) (by simp [results, Try.results59, go_sem]) rfl ⟨_, rfl, isWords_nil _ _, (Below.refl _ _).alloc (Nat.le_refl _) _⟩
/-- What stands behind t bits. -/
structure RMaking (W0 : World) (ll m : Int) (bl : List Bool) (t : Nat) (w : World) : Prop where
  s : ∃ sv M, M = (t + 63) / 64 ∧ Blk w (W0.heap.size + 1) 43 #[.int .i64 ll, .int .i64 m, sv] ∧ w.ownsRow (W0.heap.size + 1 + 1) 63 1 sv M ((packW bl M t).map wordV)
  r : Blk w W0.heap.size 43 #[.int .i64 0, .int .i64 0, .slice none 0 0]
  b : Below W0.heap.size W0 w
theorem step_p1 {W0 w2 : World} {ll m : Int} {bl : List Bool} {t M j g cap : Nat}
    (hS : Blk w2 (W0.heap.size + 1) 43 #[.int .i64 ll, .int .i64 m, .slice (some ⟨g, 0, none⟩) M cap]) (hO : w2.ownsRow (W0.heap.size + 1 + 1) 63 1 (.slice (some ⟨g, 0, none⟩) M cap) M ((packW bl M t).map wordV))
    (hR : Blk w2 W0.heap.size 43 #[.int .i64 0, .int .i64 0, .slice none 0 0]) (hB : Below W0.heap.size W0 w2) (hM : M = (t + 1 + 63) / 64) (hj : j + 1 = M) (hij : t / 64 = j) (hb : bl.getD t false = true) :
    ∃ x : Nat, x < 18446744073709551616 ∧ x + 2 ^ (t % 64) < 18446744073709551616 ∧ IntKind.u64.wrap ((x : Int) + IntKind.u64.wrap (2 ^ (t % 64))) = ((x + 2 ^ (t % 64) : Nat) : Int) ∧
      w2.cell? ⟨W0.heap.size + 1, 2, none⟩ = some (.slice (some ⟨g, 0, none⟩) M cap) ∧ w2.cell? ⟨g, j, none⟩ = some (.int .u64 x) ∧ w2.frozen? ⟨g, j, none⟩ = false ∧
      RMaking W0 ll m bl (t + 1) (w2.setCell ⟨g, j, none⟩ (.int .u64 ((x + 2 ^ (t % 64) : Nat) : Int))).drew := by
  have hl := packW_length bl M t
  have hcl := packW_clear bl M t t (by omega) (Nat.le_refl _)
  have hxl : (packW bl M t).getD (t / 64) 0 < 18446744073709551616 := word_lt (packW_lt bl M t (by omega)) _
  have hal := add_pow_lt _ _ hxl (by omega) hcl
  have hyes := packW_yes (W := M) hb
  rw [hij] at hxl hcl hal hyes
  have hgl := hO.lt g rfl
  refine ⟨(packW bl M t).getD j 0, hxl, hal, ?_, by rw [hS.cell]; rfl, ?_, hO.frozenAt j, ⟨⟨.slice (some ⟨g, 0, none⟩) M cap, M, hM, Blk.drew (hS.far (by simp; omega) _), ?_⟩, Blk.drew (hR.far (by simp; omega) _), (hB.setCell (by simp; omega) _).drew⟩⟩
  · rw [pow_u64 _ (by omega), wrap_u64]
    generalize (packW bl M t).getD j 0 = x at *
    generalize 2 ^ (t % 64) = q at *
    omega
  · rw [hO.cellAt j (by omega)]
    simp [hl, wordV, show j < M from by omega]
  · have := (hO.stored j (.int .u64 (((packW bl M t).getD j 0 + 2 ^ (t % 64) : Nat) : Int))).1
    rw [hyes, List.map_set]
    exact this.drew
theorem step_p0 {W0 w2 : World} {ll m : Int} {bl : List Bool} {t M j g cap : Nat}
    (hS : Blk w2 (W0.heap.size + 1) 43 #[.int .i64 ll, .int .i64 m, .slice (some ⟨g, 0, none⟩) M cap]) (hO : w2.ownsRow (W0.heap.size + 1 + 1) 63 1 (.slice (some ⟨g, 0, none⟩) M cap) M ((packW bl M t).map wordV))
    (hR : Blk w2 W0.heap.size 43 #[.int .i64 0, .int .i64 0, .slice none 0 0]) (hB : Below W0.heap.size W0 w2) (hM : M = (t + 1 + 63) / 64) (hj : j + 1 = M) (hij : t / 64 = j) (hb : bl.getD t false = false) :
    ∃ x : Nat, x < 18446744073709551616 ∧ True ∧ True ∧
      w2.cell? ⟨W0.heap.size + 1, 2, none⟩ = some (.slice (some ⟨g, 0, none⟩) M cap) ∧ w2.cell? ⟨g, j, none⟩ = some (.int .u64 x) ∧ w2.frozen? ⟨g, j, none⟩ = false ∧
      RMaking W0 ll m bl (t + 1) (w2.setCell ⟨g, j, none⟩ (.int .u64 (x : Int))).drew := by
  have hl := packW_length bl M t
  have hxl : (packW bl M t).getD j 0 < 18446744073709551616 := word_lt (packW_lt bl M t (by omega)) _
  have hno := packW_no (W := M) hb
  have hgl := hO.lt g rfl
  refine ⟨(packW bl M t).getD j 0, hxl, trivial, trivial, by rw [hS.cell]; rfl, ?_, hO.frozenAt j, ⟨⟨.slice (some ⟨g, 0, none⟩) M cap, M, hM, Blk.drew (hS.far (by simp; omega) _), ?_⟩, Blk.drew (hR.far (by simp; omega) _), (hB.setCell (by simp; omega) _).drew⟩⟩
  · rw [hO.cellAt j (by omega)]
    simp [hl, wordV, show j < M from by omega]
  · have := (hO.stored j (.int .u64 (((packW bl M t).getD j 0 : Nat) : Int))).1
    rw [hno]
    have e : ((packW bl M t).map wordV).set j (.int .u64 (((packW bl M t).getD j 0 : Nat) : Int)) = (packW bl M t).map wordV := by
      apply List.ext_getElem?
      intro q
      rw [List.getElem?_set]
      split
      · rename_i h; subst h; simp [hl, wordV, show j < M from by omega]
      · rfl
    rw [e] at this
    exact this.drew
theorem bit_i64 (n i : Nat) (hn : n < 9223372036854775808) : bits .and .i64 ((n : Int) / 2 ^ i) 1 = if n.testBit i then 1 else 0 := by
  have h : n / 2 ^ i ≤ n := Nat.div_le_self _ _
  have := and_i64 ((n : Int) / 2 ^ i) (n / 2 ^ i) 1 (by simp) (by omega) (by decide)
  rw [Nat.and_one_is_mod, mod_of_test] at this
  rw [show (((1 : Nat) : Int)) = 1 from rfl] at this
  rw [this]; split <;> rfl
set_option maxHeartbeats 2000000 in
/-- The inner loop's rounds: the bits of one number. -/
theorem refPackMake_any (v : Value) (m : Nat) (l : List Int) (n' m' : Int) (ws : List Nat) (cc : Int) (w : World) (B : Nat) (hB : B ≤ w.heap.size) (h : IsInts .i64 w B v l) (hl : l.length ≤ 300) (hm : m ≤ 62) (hR : PackR m l n' m' ws cc) :
    Calls Try.prog 59 #[.int .i64 m, v] w (GivesPacked n' m' ws cc w) := by
  obtain ⟨A, c, rfl, hc, hcm, hb, hr, hw⟩ := h
  have hp : l.length * m ≤ 300 * 62 := Nat.mul_le_mul hl hm
  have HR0 := Lib.hid hR
  have hd1 : decide (300 < (l.length : Int)) = false := by simp; omega
  have hd2 : decide ((m : Int) < 0) = false := by simp
  have hd3 : decide (62 < (m : Int)) = false := by simp; omega
  have hpw := pow_i64 m (by omega)
  have hp2 : 2 ^ m ≤ 2 ^ 62 := Nat.pow_le_pow_right (by decide) hm
  obtain ⟨q, hq⟩ : ∃ q : Nat, q = 2 ^ m := ⟨_, rfl⟩
  rw [← hq] at hpw hp2
  have HQ := Lib.hid hq
  obtain ⟨bl, hbl⟩ : ∃ bl, bl = flat m (l.map Int.toNat) := ⟨_, rfl⟩
  have HBL := Lib.hid hbl
  clear hR hq hbl
  go_enter Try.func59, Try.ntmps59
  go_wp2_with fail
  go_loopw [7, 28] (fun nv iv wr => ∃ i : Nat, i ≤ l.length ∧ iv = .int .i64 i ∧ nv = .int .i64 (i * m : Nat) ∧ (∀ j, j < i → 0 ≤ l.getD j 0 ∧ l.getD j 0 < 2 ^ m) ∧ RMaking w l.length m bl (i * m) wr) (fun _ iv _ => l.length - (intOf iv).toNat)
  case atStart =>
    refine ⟨0, by omega, rfl, by rw [Nat.zero_mul]; rfl, fun j hj => absurd hj (by omega), ⟨.slice none 0 0, 0, by omega, Blk.new_at _ _ _ _ (by simp), ?_⟩, (Blk.new w _ _).alloc _, ((Below.refl _ _).alloc (Nat.le_refl _) _).alloc (by simp) _⟩
    rw [Nat.zero_mul, packW_0]; exact World.ownsRow_nil _ _ _ _
  case round =>
    obtain ⟨wo, rfl⟩ : ∃ wo : World, wo = wr := ⟨_, rfl⟩
    obtain ⟨i, hi, rfl, rfl, hfits, hM⟩ := hrel
    have hz : w.heap.size + 1 < wo.heap.size := by obtain ⟨_, _, _, h, _⟩ := hM.s; exact h.lt
    by_cases hlt : i < l.length
    · obtain ⟨b, off, rfl, hbB, hcells⟩ := ints_cells hr (by omega)
      have k2 := (hM.b.cell (p := ⟨b, off + i, none⟩) (by simp; omega)).trans (hcells i hlt)
      have hxm : l.getD i 0 ∈ l := by rw [List.getD_eq_getElem?_getD, List.getElem?_eq_getElem hlt]; exact List.getElem_mem _
      have hx64 := wf_i64 (hw _ hxm)
      clear hcells
      by_cases hfit : 0 ≤ l.getD i 0 ∧ l.getD i 0 < 2 ^ m
      · obtain ⟨x, hx⟩ : ∃ x : Nat, l.getD i 0 = x := ⟨(l.getD i 0).toNat, by omega⟩
        have hx2 : x < q := by
          have := hfit.2
          rw [hx] at this
          have e : ((2 : Int) ^ m) = ((2 ^ m : Nat) : Int) := by simp
          rw [e] at this; rw [HQ.out]; omega
        have hng : (l.map Int.toNat).getD i 0 = x := by
          have : l[i]? = some (x : Int) := by
            rw [List.getElem?_eq_getElem hlt, ← hx, List.getD_eq_getElem?_getD, List.getElem?_eq_getElem hlt]; rfl
          simp [this]
        rw [hx] at k2
        have HBT := Lib.hid (fun (k : Nat) (hk : k < m) => show bl.getD (i * m + k) false = x.testBit k by rw [HBL.out, flat_at m _ i k (by simpa using hlt) hk, hng])
        have ple : (i + 1) * m ≤ l.length * m := Nat.mul_le_mul_right _ hlt
        have ps : (i + 1) * m = i * m + m := Nat.succ_mul _ _
        obtain ⟨s0, hs0⟩ : ∃ s0, s0 = i * m := ⟨_, rfl⟩
        have HS0 := Lib.hid hs0
        have HPS : Hid ((i + 1) * m = s0 + m) := Lib.hid (by rw [hs0]; exact ps)
        rw [← hs0] at hM HBT ps ⊢
        have hle0 : s0 + m ≤ 18600 := by omega
        have HF : Hid (0 ≤ l.getD i 0 ∧ l.getD i 0 < 2 ^ m) := Lib.hid hfit
        have HFS := Lib.hid hfits
        have hqx : decide (q ≤ x) = false := by simp; omega
        have hx0 : decide ((x : Int) < 0) = false := by simp
        have HM := Lib.hid hM
        clear hM hfit hx hng hxm hx64 ple ps hs0 hfits
        go_wp2_with fail
        go_loopw [7, 10] (fun nv kv wr => ∃ k : Nat, k ≤ m ∧ kv = .int .i64 k ∧ nv = .int .i64 (s0 + k : Nat) ∧ RMaking w l.length m bl (s0 + k) wr) (fun _ kv _ => m - (intOf kv).toNat)
        case atStart => exact ⟨0, by omega, rfl, rfl, HM.out⟩
        case round =>
          obtain ⟨k, hk, rfl, rfl, hM⟩ := hrel
          by_cases hkm : k < m
          · have hbit := HBT.out k hkm
            have hb64 := bit_i64 x k (by omega)
            obtain ⟨t, ht⟩ : ∃ t, t = s0 + k := ⟨_, rfl⟩
            rw [← ht] at hbit hM ⊢
            have htl : t ≤ 18600 := by omega
            have HT : Hid (s0 + (k + 1) = t + 1) := Lib.hid (by omega)
            clear ht
            obtain ⟨⟨sv, M, hMM, hS, hown⟩, hR, hbel⟩ := hM
            have hz2 := hS.lt
            have k3 : wr.cell? ⟨w.heap.size + 1, 2, none⟩ = some sv := by rw [hS.cell]; rfl
            by_cases h0 : t % 64 = 0
            · have t0 : ((t : Int) % 64 == 0) = true := by simp; omega
              have hm1 : M * 64 = t := by omega
              have HG := Lib.hid (packW_grow bl M t (by omega))
              have HS := Lib.hid hS
              have HO := Lib.hid hown
              have HR := Lib.hid hR
              have HB := Lib.hid hbel
              cases hbv : x.testBit k with
              | true =>
                rw [hbv] at hbit hb64
                simp only [if_true] at hb64
                have HB1 := Lib.hid hbit
                clear hbit hbv hS hown hR hbel h0 hMM
                go_wp2_with ((at_builtin; refine wpList_push el_u64 rfl (.tmp 50) (.tmp 51) rfl (w.heap.size + 1 + 1) _ M _ (HO.out.alloc _) rfl wr.heap.size 1 (.int .u64 0) rfl (by simp) rfl (by omega) (by omega) (by simp; omega) ?_; intro v' w1 hown1 hg1; obtain ⟨g, cap, hgv⟩ := Go.Joins.ownsRow_form hown1 (by omega); rw [hgv] at hown1 ⊢; have hS1 := (HS.out.alloc _).grown hg1 (Ne.symm (own_ne HO.out (by omega))); have c1 : w1.cell? ⟨w.heap.size + 1, 2, none⟩ = some sv := (hS1.cell 2).trans rfl; have f1 := hS1.frozen 2; have hgl := hown1.lt g rfl; have k5 := (hown1.cellAt M (by omega)).trans (last_word bl M t); have f5 := hown1.frozenAt M; have HO1 := Lib.hid hown1; have HG1 := Lib.hid hg1; have HS1 := Lib.hid hS1; clear hown1 hg1 hS1))
                have hS2 := HS1.out.set_ 2 (.slice (some ⟨g, 0, none⟩) (M + 1) cap)
                have hO2 := ownsRow_setCell_below HO1.out (a := ⟨w.heap.size + 1, 2, none⟩) (Nat.lt_succ_self _) (.slice (some ⟨g, 0, none⟩) (M + 1) cap)
                have hB2 := (below_push (HB.out.alloc (by omega) _) (HO.out.alloc _) (by omega) (by simp; omega) HG1.out).setCell (p := ⟨w.heap.size + 1, 2, none⟩) (Nat.le_succ _) (.slice (some ⟨g, 0, none⟩) (M + 1) cap)
                have hR2 := ((HR.out.alloc _).grown HG1.out (Ne.symm (own_ne HO.out (by omega)))).far (p := ⟨w.heap.size + 1, 2, none⟩) (by simp) (.slice (some ⟨g, 0, none⟩) (M + 1) cap)
                generalize w1.setCell ⟨w.heap.size + 1, 2, none⟩ (.slice (some ⟨g, 0, none⟩) (M + 1) cap) = w2 at *
                rw [show (packW bl M t).map wordV ++ [.int .u64 0] = (packW bl (M + 1) t).map wordV from by rw [HG.out, List.map_append]; rfl] at hO2
                have hS3 : Blk w2 (w.heap.size + 1) 43 #[.int .i64 l.length, .int .i64 m, .slice (some ⟨g, 0, none⟩) (M + 1) cap] := hS2
                obtain ⟨y, hy, hadd, hwr, c2, k6, f6, hfin⟩ := step_p1 hS3 hO2 hR2 hB2 (show M + 1 = (t + 1 + 63) / 64 by omega) (show M + 1 = M + 1 from by omega) (show t / 64 = M from by omega) HB1.out
                have H6 := Lib.hid hfin
                clear hS2 hO2 hB2 hR2 hS3 hfin k5 f5 c1 f1 HO1 HG1 HS1 HB HR HO HS
                go_region
                go_wp2
                have e9 : k + 1 ≤ m := by omega
                have e0 : Value.int .i64 ((k : Int) + 1) = .int .i64 ((k + 1 : Nat) : Int) := by go_num
                have e1 : Value.int .i64 ((t : Int) + 1) = .int .i64 ((s0 + (k + 1) : Nat) : Int) := by rw [HT.out]; go_num
                rw [← HT.out] at H6
                go_roundw
                case rel => exact ⟨k + 1, e9, e0, e1, H6.out⟩
                case measure => simp [intOf]; omega
              | false =>
                rw [hbv] at hbit hb64
                simp only [Bool.false_eq_true, if_false] at hb64
                have HB1 := Lib.hid hbit
                clear hbit hbv hS hown hR hbel h0 hMM
                go_wp2_with ((at_builtin; refine wpList_push el_u64 rfl (.tmp 50) (.tmp 51) rfl (w.heap.size + 1 + 1) _ M _ (HO.out.alloc _) rfl wr.heap.size 1 (.int .u64 0) rfl (by simp) rfl (by omega) (by omega) (by simp; omega) ?_; intro v' w1 hown1 hg1; obtain ⟨g, cap, hgv⟩ := Go.Joins.ownsRow_form hown1 (by omega); rw [hgv] at hown1 ⊢; have hS1 := (HS.out.alloc _).grown hg1 (Ne.symm (own_ne HO.out (by omega))); have c1 : w1.cell? ⟨w.heap.size + 1, 2, none⟩ = some sv := (hS1.cell 2).trans rfl; have f1 := hS1.frozen 2; have hgl := hown1.lt g rfl; have k5 := (hown1.cellAt M (by omega)).trans (last_word bl M t); have f5 := hown1.frozenAt M; have HO1 := Lib.hid hown1; have HG1 := Lib.hid hg1; have HS1 := Lib.hid hS1; clear hown1 hg1 hS1))
                have hS2 := HS1.out.set_ 2 (.slice (some ⟨g, 0, none⟩) (M + 1) cap)
                have hO2 := ownsRow_setCell_below HO1.out (a := ⟨w.heap.size + 1, 2, none⟩) (Nat.lt_succ_self _) (.slice (some ⟨g, 0, none⟩) (M + 1) cap)
                have hB2 := (below_push (HB.out.alloc (by omega) _) (HO.out.alloc _) (by omega) (by simp; omega) HG1.out).setCell (p := ⟨w.heap.size + 1, 2, none⟩) (Nat.le_succ _) (.slice (some ⟨g, 0, none⟩) (M + 1) cap)
                have hR2 := ((HR.out.alloc _).grown HG1.out (Ne.symm (own_ne HO.out (by omega)))).far (p := ⟨w.heap.size + 1, 2, none⟩) (by simp) (.slice (some ⟨g, 0, none⟩) (M + 1) cap)
                generalize w1.setCell ⟨w.heap.size + 1, 2, none⟩ (.slice (some ⟨g, 0, none⟩) (M + 1) cap) = w2 at *
                rw [show (packW bl M t).map wordV ++ [.int .u64 0] = (packW bl (M + 1) t).map wordV from by rw [HG.out, List.map_append]; rfl] at hO2
                have hS3 : Blk w2 (w.heap.size + 1) 43 #[.int .i64 l.length, .int .i64 m, .slice (some ⟨g, 0, none⟩) (M + 1) cap] := hS2
                obtain ⟨y, hy, hadd, hwr, c2, k6, f6, hfin⟩ := step_p0 hS3 hO2 hR2 hB2 (show M + 1 = (t + 1 + 63) / 64 by omega) (show M + 1 = M + 1 from by omega) (show t / 64 = M from by omega) HB1.out
                have H6 := Lib.hid hfin
                clear hS2 hO2 hB2 hR2 hS3 hfin k5 f5 c1 f1 HO1 HG1 HS1 HB HR HO HS
                go_region
                go_wp2
                have e9 : k + 1 ≤ m := by omega
                have e0 : Value.int .i64 ((k : Int) + 1) = .int .i64 ((k + 1 : Nat) : Int) := by go_num
                have e1 : Value.int .i64 ((t : Int) + 1) = .int .i64 ((s0 + (k + 1) : Nat) : Int) := by rw [HT.out]; go_num
                rw [← HT.out] at H6
                go_roundw
                case rel => exact ⟨k + 1, e9, e0, e1, H6.out⟩
                case measure => simp [intOf]; omega
            · have t0 : ((t : Int) % 64 == 0) = false := by simp; omega
              have hm1 : 0 < M := by omega
              have hm2 : t / 64 = M - 1 := by omega
              have hm3 : M = (t + 1 + 63) / 64 := by omega
              have hm4 : M ≤ 300 := by omega
              clear h0 hMM
              obtain ⟨g, cap, rfl⟩ := Go.Joins.ownsRow_form hown hm1
              cases hbv : x.testBit k with
              | true =>
                rw [hbv] at hbit hb64
                simp only [if_true] at hb64
                obtain ⟨y, hy, hadd, hwr, c2, k6, f6, hfin⟩ := step_p1 hS hown hR hbel hm3 (show M - 1 + 1 = M from by omega) hm2 hbit
                have H6 := Lib.hid hfin
                have hgl := hown.lt g rfl
                clear hbit hbv hS hown hR hbel hm3 hm2 hfin
                go_wp2
                go_region
                go_wp2
                go_roundw
                case rel => exact ⟨k + 1, by omega, by go_num, by rw [HT.out]; go_num, by rw [HT.out]; exact H6.out⟩
                case measure => simp [intOf]; omega
              | false =>
                rw [hbv] at hbit hb64
                simp only [Bool.false_eq_true, if_false] at hb64
                obtain ⟨y, hy, hadd, hwr, c2, k6, f6, hfin⟩ := step_p0 hS hown hR hbel hm3 (show M - 1 + 1 = M from by omega) hm2 hbit
                have H6 := Lib.hid hfin
                have hgl := hown.lt g rfl
                clear hbit hbv hS hown hR hbel hm3 hm2 hfin
                go_wp2
                go_region
                go_wp2
                go_roundw
                case rel => exact ⟨k + 1, by omega, by go_num, by rw [HT.out]; go_num, by rw [HT.out]; exact H6.out⟩
                case measure => simp [intOf]; omega
          · obtain rfl : k = m := by omega
            have HM2 := Lib.hid hM
            clear hM
            go_wp2
            go_roundw
            case rel =>
              refine ⟨i + 1, by omega, by go_num, by rw [HPS.out], fun j hj => ?_, by rw [HPS.out]; exact HM2.out⟩
              rcases Nat.lt_or_ge j i with h | h
              · exact HFS.out j h
              · rw [show j = i from by omega]; exact HF.out
            case measure => simp [intOf]; omega
      · have hbad : n' = 0 ∧ m' = 0 ∧ ws = [] ∧ cc = 2 := by
          rcases HR0.out with ⟨h, _⟩ | ⟨_, h⟩
          · exact absurd (h _ hxm) hfit
          · exact h
        obtain ⟨rfl, rfl, rfl, rfl⟩ := hbad
        obtain ⟨x, hx⟩ : ∃ x, x = l.getD i 0 := ⟨_, rfl⟩
        rw [← hx] at k2 hfit hx64
        have hfit' : x < 0 ∨ (q : Int) ≤ x := by
          have e : ((2 : Int) ^ m) = (q : Int) := by rw [HQ.out]; simp
          rw [e] at hfit; omega
        have k5 : wo.cell? ⟨w.heap.size, 0, none⟩ = some (.int .i64 0) := by rw [hM.r.cell]; rfl
        have k6 : wo.cell? ⟨w.heap.size, 1, none⟩ = some (.int .i64 0) := by rw [hM.r.cell]; rfl
        have k7 : wo.cell? ⟨w.heap.size, 2, none⟩ = some (.slice none 0 0) := by rw [hM.r.cell]; rfl
        have f0 := hM.r.frozen 0
        have f1 := hM.r.frozen 1
        have f2 := hM.r.frozen 2
        have RC := Lib.hid (res3_cells (a := .int .i64 0) (b := .int .i64 0) (c := .slice none 0 0) hM.r)
        have HM := Lib.hid hM
        clear hM hx hxm hfits hfit
        by_cases hx0 : x < 0
        · clear hfit'
          go_wp2
          refine bodyPost_ret (v := .tuple #[.agg #[.int .i64 0, .int .i64 0, .slice none 0 0], .int .i64 2]) ?_ rfl ?_
          · obtain ⟨c0, c1, c2⟩ := RC.out
            simp [results, Try.results59, go_sem, c0, c1, c2]
          · exact ⟨_, rfl, isWords_nil _ _, res3_below HM.out.b (Nat.le_refl _)⟩
        · have hq' : (q : Int) ≤ x := by omega
          clear hfit'
          go_wp2
          refine bodyPost_ret (v := .tuple #[.agg #[.int .i64 0, .int .i64 0, .slice none 0 0], .int .i64 2]) ?_ rfl ?_
          · obtain ⟨c0, c1, c2⟩ := RC.out
            simp [results, Try.results59, go_sem, c0, c1, c2]
          · exact ⟨_, rfl, isWords_nil _ _, res3_below HM.out.b (Nat.le_refl _)⟩
    · obtain rfl : i = l.length := by omega
      have hbad : n' = l.length ∧ m' = m ∧ ws = packW bl ((l.length * m + 63) / 64) (l.length * m) ∧ cc = 0 := by
        rcases HR0.out with ⟨_, h⟩ | ⟨⟨x, hx, h⟩, _⟩
        · rw [HBL.out]; exact h
        · obtain ⟨j, hj, rfl⟩ := List.getElem_of_mem hx
          have := hfits j hj
          rw [List.getD_eq_getElem?_getD, List.getElem?_eq_getElem hj] at this
          exact absurd this h
      obtain ⟨rfl, rfl, rfl, rfl⟩ := hbad
      obtain ⟨⟨sv, M, hMM, hS, hown⟩, hR, hbel⟩ := hM
      obtain ⟨A2, cap2, rfl⟩ := own_shape hown
      have k0 : wo.cell? ⟨w.heap.size + 1, 0, none⟩ = some (.int .i64 l.length) := by rw [hS.cell]; rfl
      have k1 : wo.cell? ⟨w.heap.size + 1, 1, none⟩ = some (.int .i64 m) := by rw [hS.cell]; rfl
      have k2 : wo.cell? ⟨w.heap.size + 1, 2, none⟩ = some (.slice A2 M cap2) := by rw [hS.cell]; rfl
      have k5 : wo.cell? ⟨w.heap.size, 0, none⟩ = some (.int .i64 0) := by rw [hR.cell]; rfl
      have k6 : wo.cell? ⟨w.heap.size, 1, none⟩ = some (.int .i64 0) := by rw [hR.cell]; rfl
      have k7 : wo.cell? ⟨w.heap.size, 2, none⟩ = some (.slice none 0 0) := by rw [hR.cell]; rfl
      have f0 := hR.frozen 0
      have f1 := hR.frozen 1
      have f2 := hR.frozen 2
      have RC := Lib.hid (res3_cells (a := .int .i64 l.length) (b := .int .i64 m) (c := .slice A2 M cap2) hR)
      have HL := Lib.hid (packW_length bl M (l.length * m))
      have HT := Lib.hid (packW_lt bl M (l.length * m) (by omega))
      have hMle : M ≤ 400 := by omega
      have HMM := Lib.hid hMM
      have HBel := Lib.hid (res3_below (a := .int .i64 l.length) (b := .int .i64 m) (c := .slice A2 M cap2) hbel (Nat.le_refl _))
      have HO := Lib.hid (ownsRow_setCell_below (ownsRow_setCell_below (ownsRow_setCell_below hown (a := ⟨w.heap.size, 0, none⟩) (by show w.heap.size < _; omega) (.int .i64 l.length)) (a := ⟨w.heap.size, 1, none⟩) (by show w.heap.size < _; omega) (.int .i64 m)) (a := ⟨w.heap.size, 2, none⟩) (by show w.heap.size < _; omega) (.slice A2 M cap2))
      clear hMM hS hown hR hbel hfits
      go_wp2
      refine bodyPost_ret (v := .tuple #[.agg #[.int .i64 l.length, .int .i64 m, .slice A2 M cap2], .int .i64 0]) ?_ rfl ?_
      · obtain ⟨c0, c1, c2⟩ := RC.out
        simp [results, Try.results59, go_sem, c0, c1, c2]
      · refine ⟨_, rfl, ?_, HBel.out⟩
        rw [← HMM.out]
        exact own_words HO.out (by rw [HL.out]; omega) HT.out
end Go.Proofs.Yteblkbgcnoepnaa
