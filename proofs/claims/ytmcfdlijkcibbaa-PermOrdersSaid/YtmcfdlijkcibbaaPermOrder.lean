/-
  Contract of perm.Order: the order with a number. Conditions: the arguments are ints.
-/
import Derived.Test.YtmcfdlijkcibbaaPermPlain
import Derived.Test.YtmcfdlijkcibbaaStepPush
import Derived.Test.YtmcfdlijkcibbaaOwnBlk
import Derived.Deep.CutRange
namespace Go.Dam
open Go Go.RowKit
/-- What Order answers. -/
def OrderR (n num : Int) (r : List Int) (c : Int) : Prop :=
  ((n < 0 ∨ 20 < n ∨ num < 0) ∧ r = [] ∧ c = 2) ∨ (∃ a b : Nat, n = a ∧ num = b ∧ a ≤ 20 ∧ ((fact a ≤ b ∧ r = [] ∧ c = 2) ∨ (b < fact a ∧ r = (choseN a b a).map (fun k : Nat => (k : Int)) ∧ c = 0)))
theorem OrderR.ex (n num : Int) : ∃ r c, OrderR n num r c := by
  by_cases h : n < 0 ∨ 20 < n ∨ num < 0
  · exact ⟨_, _, .inl ⟨h, rfl, rfl⟩⟩
  · by_cases h2 : fact n.toNat ≤ num.toNat
    · exact ⟨_, _, .inr ⟨n.toNat, num.toNat, by omega, by omega, by omega, .inl ⟨h2, rfl, rfl⟩⟩⟩
    · exact ⟨_, _, .inr ⟨n.toNat, num.toNat, by omega, by omega, by omega, .inr ⟨by omega, rfl, rfl⟩⟩⟩
theorem chose_wf {n num : Nat} (hn : n ≤ 1000) : ∀ z ∈ (choseN n num n).map (fun k : Nat => (k : Int)), (Lit.int .i64 z).wf = true := by
  intro z hz
  obtain ⟨k, hk, rfl⟩ := List.mem_map.1 hz
  have := choseN_lt n num n (Nat.le_refl _) k hk
  exact int_wf (by unfold I64; omega)
/-- The first d elements of a row of the call's own. -/
theorem own_take {w : World} {base n d c : Nat} {e : TypeId} {A : Option Addr} {xs : List Value} (h : w.ownsRow base e 1 (.slice A n c) n xs) (hd : d ≤ n) (hn : 0 < n) : w.ownsRow base e 1 (.slice A d c) d (xs.take d) := by
  have hl := h.1
  refine ⟨by rw [List.length_take]; omega, ?_⟩
  rcases h.2 with ⟨_, h0⟩ | ⟨g, cap, cur, hv, h1, h2, h3, h4, h5, h6⟩
  · omega
  · obtain ⟨rfl, rfl⟩ : A = some ⟨g, 0, none⟩ ∧ c = cap := by injection hv with a b c; exact ⟨a, c⟩
    refine .inr ⟨g, c, cur, rfl, h1, h2, by omega, h4, h5, ?_⟩
    rw [← h6, List.take_take]; congr 1; omega
end Go.Dam
namespace Go.Proofs.Ytmcfdlijkcibbaa
open Go Go.RowKit Go.Dam
set_option linter.unusedVariables false
set_option maxHeartbeats 4000000 in
theorem permOrder_any (n num : Int) (r : List Int) (cc : Int) (w : World) (hR : OrderR n num r cc) (hn : I64 n) (hm : I64 num) :
    Calls Try.prog 29 #[.int .i64 n, .int .i64 num] w (GivesInts r cc w) := by
  rcases hR with ⟨h1, rfl, rfl⟩ | ⟨a, b, rfl, rfl, ha, hR⟩
  · by_cases g1 : n < 0
    · have t1 : decide (n < 0) = true := by simpa using g1
      clear h1
      go_enter Try.func29, Try.ntmps29
      go_wp2_with fail
      go_ret2
      exact ⟨_, rfl, isInts_nil _ _ _, Below.refl _ _⟩
    have t1 : decide (n < 0) = false := by simpa using g1
    by_cases g2 : 20 < n
    · have t2 : decide (20 < n) = true := by simpa using g2
      clear h1
      go_enter Try.func29, Try.ntmps29
      go_wp2_with fail
      go_ret2
      exact ⟨_, rfl, isInts_nil _ _ _, Below.refl _ _⟩
    have t2 : decide (20 < n) = false := by simpa using g2
    have t3 : decide (num < 0) = true := by simp; omega
    clear h1
    go_enter Try.func29, Try.ntmps29
    go_wp2_with fail
    go_ret2
    exact ⟨_, rfl, isInts_nil _ _ _, Below.refl _ _⟩
  · have t1 : decide ((a : Int) < 0) = false := by simp
    have t2 : decide (20 < (a : Int)) = false := by simp; omega
    have t3 : decide ((b : Int) < 0) = false := by simp
    have HR := Lib.hid hR
    have hmk := fun w' => run_make1 el_int rfl (a : Int) a rfl (by omega) (by omega) w'
    rw [zerosV_eq] at hmk
    clear hR
    go_enter Try.func29, Try.ntmps29
    go_wp2_with fail
    clear hmk
    go_loopw [1, 7] (fun nv iv wr => ∃ j x : Nat, j ≤ a ∧ iv = .int .i64 ((j : Int) - 1) ∧ nv = .int .i64 (x : Int) ∧ x = b / fact (a - j) ∧ x ≤ b ∧ IBlk .i64 3 wr w.heap.size (digHalf a b j) ∧ Below w.heap.size w wr) (fun _ iv _ => (intOf iv + 1).toNat)
    case atStart => exact ⟨a, b, by omega, rfl, rfl, by rw [Nat.sub_self, fact_0, Nat.div_one], Nat.le_refl _, by rw [digHalf_start]; exact IBlk.zerosV_at _ _ _ _ rfl, (Below.refl _ _).alloc (Nat.le_refl _) _⟩
    case round =>
      obtain ⟨j, x, hj, rfl, rfl, hx, hxb, hblk, hbel⟩ := hrel
      have HBlk := Lib.hid hblk
      have HB := Lib.hid hbel
      have hI : x ≤ 9223372036854775807 := by unfold I64 at hm; omega
      cases j with
      | zero =>
        rw [show ((0 : Nat) : Int) - 1 = -1 from rfl]
        rw [Nat.sub_zero] at hx
        have hover := over_iff b a
        rw [← hx] at hover
        rcases HR.out with ⟨h1, rfl, rfl⟩ | ⟨h1, rfl, rfl⟩
        · have t4 : decide (0 < (x : Int)) = true := by simp; omega
          have t5 : decide (0 < x) = true := by simp; omega
          clear hblk hbel hx HR hover h1
          go_wp2_with fail
          go_ret2
          exact ⟨_, rfl, isInts_nil _ _ _, HB.out⟩
        · have t4 : decide (0 < (x : Int)) = false := by simp; omega
          have t5 : decide (0 < x) = false := by simp; omega
          clear hblk hbel hx HR hover h1
          go_wp2_with fail
          go_loopw [8, 47] (fun lv iv w2 => ∃ i : Nat, i ≤ a ∧ iv = .int .i64 i ∧ w2.ownsRow (w.heap.size + 1) 3 1 lv i (natVs (List.range i)) ∧ IBlk .i64 3 w2 w.heap.size (digHalf a b 0) ∧ Below w.heap.size w w2) (fun _ iv _ => a - (intOf iv).toNat)
          case atStart => exact ⟨0, by omega, rfl, by rw [List.range_zero, natVs_nil]; exact World.ownsRow_nil _ _ _ _, HBlk.out, HB.out⟩
          case round =>
            clear HBlk HB
            obtain ⟨wo, rfl⟩ : ∃ wo : World, wo = wr := ⟨_, rfl⟩
            obtain ⟨i, hi, rfl, hown, hblk, hbel⟩ := hrel
            obtain ⟨A1, c1, rfl⟩ := own_shape hown
            have HO := Lib.hid hown
            have HBlk := Lib.hid hblk
            have HB := Lib.hid hbel
            have hz := hblk.lt
            clear hown hblk hbel
            by_cases hlt : i < a
            · have HN := Lib.hid (natVs_range i)
              go_wp2_with (at_builtin; refine wpList_push el_int rfl (.tmp 50) (.tmp 52) rfl (w.heap.size + 1) _ i _ (HO.out.alloc _) rfl wo.heap.size 1 _ rfl (by simp; rfl) rfl (by omega) (by omega) (by simp; omega) ?_; intro v' w2 hown2 hg2)
              refine ⟨⟨i + 1, by omega, by go_num, by rw [HN.out]; exact hown2, (HBlk.out.alloc _).grown hg2 (fun e => own_ne (HO.out.alloc (.cells #[.int .i64 (i : Int)] 3)) (Nat.lt_succ_self _) e.symm), below_push (HB.out.alloc (by omega) _) (HO.out.alloc _) (Nat.le_succ _) (by simp; omega) hg2⟩, by simp [intOf]; omega⟩
            · obtain rfl : i = a := by omega
              go_wp2_with fail
              go_loopw [8, 9, 57] (fun lv ov iv w2 => ∃ p : Nat, p ≤ i ∧ iv = .int .i64 p ∧ w2.ownsRow (w.heap.size + 1) 3 1 lv (i - p) (natVs (freeN (choseN i b p) i)) ∧ w2.ownsRow (w.heap.size + 1) 3 1 ov p (natVs (choseN i b p)) ∧ Apart lv ov ∧ IBlk .i64 3 w2 w.heap.size (digHalf i b 0) ∧ Below w.heap.size w w2) (fun _ _ iv _ => i - (intOf iv).toNat)
              case atStart => exact ⟨0, by omega, rfl, by rw [choseN_0, freeN_nil, Nat.sub_zero]; exact HO.out, by rw [choseN_0, natVs_nil]; exact World.ownsRow_nil _ _ _ _, Apart.nil' _, HBlk.out, HB.out⟩
              case round =>
                clear HBlk HB HO
                obtain ⟨wi, rfl⟩ : ∃ wi : World, wi = wr := ⟨_, rfl⟩
                obtain ⟨p, hp, rfl, hleft, hout, hap, hblk, hbel⟩ := hrel
                obtain ⟨A2, c2, rfl⟩ := own_shape hleft
                obtain ⟨A3, c3, rfl⟩ := own_shape hout
                have hz := hblk.lt
                by_cases hlt : p < i
                · obtain ⟨hl1, hl2⟩ := chose_facts i b p (by omega)
                  have hd := digN_lt (num := b) hlt
                  have c0 := hblk.cell (i := p) (by rw [digHalf_length]; exact hlt)
                  rw [digHalf_at hlt] at c0
                  have hfa := freeN_at (o := choseN i b p) (m := i) (d := digN i b p) (by rw [hl2]; exact hd)
                  have hcs := choseN_succ i b p
                  have her := freeN_erase (o := choseN i b p) (m := i) (d := digN i b p) (by rw [hl2]; exact hd)
                  rw [← hcs] at her
                  have hner := natVs_erase (freeN (choseN i b p) i) (digN i b p)
                  rw [← her] at hner
                  have hns := natVs_snoc (choseN i b p) ((freeN (choseN i b p) i).getD (digN i b p) 0)
                  rw [← hcs] at hns
                  have hat := natVs_at (l := freeN (choseN i b p) i) (d := digN i b p) (by rw [hl2]; exact hd)
                  have hlen := natVs_length (freeN (choseN i b p) i)
                  have hones := natVs_one (freeN (choseN i b p) i)
                  rw [hl2] at hlen
                  obtain ⟨g2, cap2, hf, hgB, hgl⟩ := hleft.form (by omega)
                  obtain ⟨rfl, rfl⟩ : A2 = some ⟨g2, 0, none⟩ ∧ c2 = cap2 := by injection hf with a b c; exact ⟨a, c⟩
                  have c1 := hleft.cellAt (digN i b p) (by omega)
                  rw [hat] at c1
                  generalize natVs (freeN (choseN i b p) i) = fs at *
                  generalize (freeN (choseN i b p) i).getD (digN i b p) 0 = y at *
                  generalize digN i b p = d at *
                  have HL := Lib.hid hleft
                  have HO := Lib.hid hout
                  have HA := Lib.hid hap
                  have HBlk := Lib.hid hblk
                  have HB := Lib.hid hbel
                  have hca := own_cap hleft
                  have HNS := Lib.hid hns
                  have HNE := Lib.hid hner
                  have HOnes := Lib.hid hones
                  clear hblk hbel hleft hout hap hfa hcs her hat hl1 hl2 hf hns hner hones
                  go_upto_region 21 with (at_builtin; refine wpList_pushD el_int rfl (.tmp 61) (.tmp 66) rfl (w.heap.size + 1) _ p _ (HO.out.alloc _) rfl wi.heap.size 1 _ rfl (new_cell rfl) rfl (by omega) (by omega) (by simp; omega) ?_; intro v' w2 hown2 hg2 hl2; obtain ⟨A4, c4, rfl⟩ := own_shape hown2)
                  have HL2 := Lib.hid (HA.out.symm.kept hg2 (HL.out.alloc (.cells #[.int .i64 (y : Int)] 3)))
                  have HA2 := Lib.hid (HA.out.symm.grow hl2 (HL.out.alloc (.cells #[.int .i64 (y : Int)] 3))).symm
                  have HO2 := Lib.hid hown2
                  have HBlk2 := Lib.hid ((HBlk.out.alloc (.cells #[.int .i64 (y : Int)] 3)).grown hg2 (fun e => own_ne (HO.out.alloc (.cells #[.int .i64 (y : Int)] 3)) (Nat.lt_succ_self _) e.symm))
                  have HB2 := Lib.hid (below_push (HB.out.alloc (by omega) (.cells #[.int .i64 (y : Int)] 3)) (HO.out.alloc _) (Nat.le_succ _) (by simp; omega) hg2)
                  clear HL HA HO HBlk HB hown2 hg2 hl2 c0 c1
                  obtain ⟨ad, had, hnews⟩ : ∃ ad : Addr, (if c2 = d + 1 then some (⟨g2, 0, none⟩ : Addr) else some ⟨g2, d + 1, none⟩) = some ad ∧ ∀ j u, (fs.drop (d + 1))[j]? = some u → w2.cell? (ad.add j) = some u := by
                    by_cases hcd : c2 = d + 1
                    · refine ⟨_, if_pos hcd, fun j u hj => ?_⟩
                      rw [List.getElem?_drop, List.getElem?_eq_none (by omega)] at hj
                      cases hj
                    · refine ⟨_, if_neg hcd, fun j u hj => ?_⟩
                      rw [List.getElem?_drop] at hj
                      have hlt9 : d + 1 + j < fs.length := by
                        rcases Nat.lt_or_ge (d + 1 + j) fs.length with h | h
                        · exact h
                        · rw [List.getElem?_eq_none h] at hj; cases hj
                      have e1 : (⟨g2, d + 1, none⟩ : Addr).add j = ⟨g2, d + 1 + j, none⟩ := by
                        unfold Addr.add; split
                        · rename_i h; subst h; rfl
                        · rfl
                      rw [e1, HL2.out.cellAt (d + 1 + j) (by omega), hj]
                  have HNews := Lib.hid hnews
                  have HTake := Lib.hid (own_take HL2.out (show d ≤ i - p by omega) (by omega))
                  have hdc : d ≤ c2 := by omega
                  have hdc1 : d + 1 ≤ c2 := by omega
                  have hdc2 : d + 1 ≤ i - p := by omega
                  have HAD := Lib.hid had
                  have HLn : Hid ((fs.drop (d + 1)).length = (i - p - (d + 1)) * 1) := Lib.hid (by rw [List.length_drop, hlen]; omega)
                  have HDr : Hid (∀ u ∈ fs.drop (d + 1), u.oneCell' = true) := Lib.hid fun u hu => HOnes.out u (List.mem_of_mem_drop hu)
                  have hz2 := HBlk2.out.lt
                  have wd1 : IntKind.i64.wrap ((d : Int) + 1) = (d : Int) + 1 := by rw [IntKind.wrap_i64]; omega
                  have wd2 : 0 ≤ (d : Int) + 1 := by omega
                  have wd3 : (d : Int) + 1 ≤ ((i - p : Nat) : Int) := by omega
                  have wd4 : ((d : Int) + 1).toNat = d + 1 := by omega
                  clear hnews had
                  go_region_law (refine step_pushM el_int rfl (.tmp 70) (.tmp 74) rfl (w.heap.size + 1) (.slice (some ⟨g2, 0, none⟩) d c2) d (fs.take d) (show w2.drew.ownsRow _ _ _ _ _ _ from HTake.out) (by simp [Act.eval, Act.put]) ad (i - p - (d + 1)) (c2 - (d + 1)) (fs.drop (d + 1)) (by simp [Act.eval, Act.put, HAD.out]) HLn.out HNews.out HDr.out (by omega) (by omega) (by show w.heap.size + 1 ≤ w2.heap.size; omega) ?_; intro v' w3 hown3 hg3 hl3)
                  all_goals go_wp2_with fail
                  all_goals
                    have hap2 : Apart (.slice (some ⟨g2, 0, none⟩) d c2) (.slice A4 (p + 1) c4) := fun g h1 => HA2.out g h1
                    have e9 : d + (i - p - (d + 1)) = i - (p + 1) := by omega
                    rw [e9, ← HNE.out] at hown3
                    have y1 := hap2.kept hg3 (show w2.drew.ownsRow _ _ _ _ _ _ from HO2.out)
                    rw [← HNS.out] at y1
                    have y2 := hap2.grow hl3 (show w2.drew.ownsRow _ _ _ _ _ _ from HO2.out)
                    have y3 := (show IBlk _ _ w2.drew _ _ from HBlk2.out).grown hg3 (fun e => own_ne HTake.out (Nat.lt_succ_self _) e.symm)
                    have y4 := below_push (HB2.out.drew) (show w2.drew.ownsRow _ _ _ _ _ _ from HTake.out) (Nat.le_succ _) (by show w.heap.size ≤ w2.heap.size; omega) hg3
                    exact ⟨⟨p + 1, by omega, by go_num, hown3, y1, y2, y3, y4⟩, by simp [intOf]; omega⟩
                · obtain rfl : p = i := by omega
                  have HO := Lib.hid hout
                  have HB := Lib.hid hbel
                  clear hleft hout hap hblk hbel
                  go_wp2_with fail
                  go_ret2
                  have hl := (chose_facts p b p (Nat.le_refl _)).1
                  have ho := HO.out
                  rw [natVs_ints] at ho
                  exact ⟨_, rfl, own_ints ho (by rw [List.length_map, hl]; omega) (chose_wf (by omega)), HB.out⟩
      | succ i =>
        rw [show ((i + 1 : Nat) : Int) - 1 = (i : Int) from by omega]
        have hdig : ((x % (a - i) : Nat) : Int) = ((digN a b i : Nat) : Int) := by rw [digN_eq, hx, show a - (i + 1) = a - 1 - i from by omega]
        have hdiv : x / (a - i) = b / fact (a - i) := by rw [hx, show a - (i + 1) = a - 1 - i from by omega]; exact div_down (by omega)
        have HDiv := Lib.hid hdiv
        have c0 := hblk.cell (i := i) (by rw [digHalf_length]; omega)
        have f0 := hblk.frozen i
        have HS := hblk.set i ((x % (a - i) : Nat) : Int)
        rw [digHalf_set (by omega) hdig] at HS
        have HS := Lib.hid HS
        obtain ⟨q, hq⟩ : ∃ q, q = a - i := ⟨_, rfl⟩
        have hqi : (a : Int) - (i : Int) = (q : Int) := by omega
        have hq0 : 0 < q := by omega
        rw [← hq] at HS HDiv
        have HQ := Lib.hid hq
        have hle : x / q ≤ x := Nat.div_le_self _ _
        clear hblk hbel hx hdig hdiv hq
        go_wp2_with fail
        have hw : RowKit.wrap64 ((x : Int) / (q : Int)) = ((x / q : Nat) : Int) := by
          rw [show (x : Int) / (q : Int) = ((x / q : Nat) : Int) from by simp]
          generalize x / q = y at *
          exact IntWalk.wrap64_in _ ⟨by omega, by omega⟩
        refine ⟨⟨i, x / q, by omega, by go_num, vint hw, by rw [HDiv.out, HQ.out], by omega, HS.out, HB.out.setCell (p := ⟨w.heap.size, i, none⟩) (Nat.le_refl _) _⟩, by simp [intOf] <;> omega⟩
end Go.Proofs.Ytmcfdlijkcibbaa
