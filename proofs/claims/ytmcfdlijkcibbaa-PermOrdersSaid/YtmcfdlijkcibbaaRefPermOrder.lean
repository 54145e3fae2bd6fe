/-
  Contracts of the reference's orders, placeOf and PermOrder, and the walk of the law PermOrders. Conditions: the arguments are ints.
-/
import Derived.Test.YtmcfdlijkcibbaaPermOrder
namespace Go.Dam
set_option linter.unusedVariables false
theorem freeN_is {o : List Nat} {m y d : Nat} (hd : d < (freeN o m).length) (hy : y < m) (hn : o.contains y = false) (hl : (freeN o y).length = d) : (freeN o m).getD d 0 = y := by
  obtain ⟨h1, h2, h3⟩ := freeN_at hd
  generalize (freeN o m).getD d 0 = z at *
  rcases Nat.lt_trichotomy y z with h | h | h
  · have := freeN_mono o (show y + 1 ≤ z by omega)
    rw [freeN_succ, if_neg (by rw [hn]; simp)] at this
    simp at this; omega
  · exact h.symm
  · have := freeN_mono o (show z + 1 ≤ y by omega)
    rw [freeN_succ, if_neg (by rw [h2]; simp)] at this
    simp at this; omega
theorem freeN_no {o : List Nat} {y : Nat} (h : o.contains y = true) : freeN o (y + 1) = freeN o y := by rw [freeN_succ, if_pos h]
theorem freeN_yes {o : List Nat} {y : Nat} (h : o.contains y = false) : (freeN o (y + 1)).length = (freeN o y).length + 1 := by rw [freeN_succ, if_neg (by rw [h]; simp)]; simp
end Go.Dam
namespace Go.Proofs.Ytmcfdlijkcibbaa
open Go Go.RowKit Go.Dam
set_option linter.unusedVariables false
set_option maxHeartbeats 400000 in
theorem orders_any : ∀ (n : Nat) (w : World), n ≤ 20 → Calls Try.prog 55 #[.int .i64 n] w fun e w' => e = .returned (.int .i64 (fact n : Nat)) ∧ w = w'
  | 0, w, _ => by
    rw [fact_0]
    go_enter Try.func55, Try.ntmps55
    go_wp2_with fail
    go_ret
    exact ⟨rfl, rfl⟩
  | n + 1, w, h => by
    have HC := Lib.hid fun W => orders_any n W (by omega)
    have HS := Lib.hid (fact_succ n)
    have hb := fact_20 (n := n + 1) h
    rw [fact_succ] at hb
    have hb2 := fact_20 (n := n) (by omega)
    generalize fact n = f at *
    have t0 : (((n + 1 : Nat) : Int) == 0) = false := by rw [beq_eq_false_iff_ne]; omega
    have t1 : ((n : Int) + 1 == 0) = false := by rw [beq_eq_false_iff_ne]; omega
    have hm : IntKind.i64.wrap (((n : Int) + 1) * (f : Int)) = ((n : Int) + 1) * (f : Int) := by
      rw [show ((n : Int) + 1) * (f : Int) = (((n + 1) * f : Nat) : Int) from by simp]
      generalize (n + 1) * f = g at *
      rw [IntKind.wrap_i64]; omega
    have hm1 : 0 ≤ ((n : Int) + 1) * (f : Int) := by
      rw [show ((n : Int) + 1) * (f : Int) = (((n + 1) * f : Nat) : Int) from by simp]; omega
    have hm2 : ((n : Int) + 1) * (f : Int) ≤ 2432902008176640000 := by
      rw [show ((n : Int) + 1) * (f : Int) = (((n + 1) * f : Nat) : Int) from by simp]; omega
    have HV : Hid (((n : Int) + 1) * (f : Int) = ((fact (n + 1) : Nat) : Int)) := Lib.hid (by rw [HS.out]; simp)
    clear hb
    go_enter Try.func55, Try.ntmps55
    go_wp2_with (go_at_call 55; refine (HC.out _).mono ?_; rintro e w1 ⟨rfl, rfl⟩)
    go_ret
    exact ⟨ret_int HV.out, rfl⟩
set_option maxHeartbeats 400000 in
theorem placeOf_any (v : Value) (l : List Int) (y : Int) (w : World) (B : Nat) (h : IsInts .i64 w B v l) :
    Calls Try.prog 56 #[v, .int .i64 y] w fun e w' => (∃ r : Int, e = .returned (.int .i64 r) ∧ ((∃ i : Nat, r = i ∧ i < l.length ∧ l.getD i 0 = y ∧ ∀ j, j < i → l.getD j 0 ≠ y) ∨ (r = -1 ∧ ∀ j, j < l.length → l.getD j 0 ≠ y))) ∧ w = w' := by
  obtain ⟨A, c, rfl, hc, hm, hn, hr, hw⟩ := h
  clear hw
  go_enter Try.func56, Try.ntmps56
  go_wp2_with fail
  go_loop [9] (fun iv => ∃ i : Nat, i ≤ l.length ∧ iv = .int .i64 i ∧ ∀ j, j < i → l.getD j 0 ≠ y) (fun iv => l.length - (intOf iv).toNat)
  case atStart => exact ⟨0, by omega, rfl, fun j hj => absurd hj (by omega)⟩
  case round =>
    obtain ⟨i, hi, rfl, hno⟩ := hrel
    by_cases hlt : i < l.length
    · obtain ⟨b, off, rfl, hb, hcells⟩ := ints_cells hr (by omega)
      have k0 := hcells i hlt
      have HNo := Lib.hid hno
      by_cases he : l.getD i 0 = y
      · have HE := Lib.hid he
        rw [he] at k0
        clear hcells hno he
        go_wp2_with fail
        go_ret
        exact ⟨⟨_, rfl, .inl ⟨i, rfl, hlt, HE.out, HNo.out⟩⟩, rfl⟩
      · have HN : Hid (∀ j, j < i + 1 → l.getD j 0 ≠ y) := Lib.hid fun j hj => by
          rcases Nat.lt_or_ge j i with g | g
          · exact hno j g
          · rw [show j = i from by omega]; exact he
        have t0 : (l.getD i 0 == y) = false := by rw [beq_eq_false_iff_ne]; exact he
        generalize l.getD i 0 = x at *
        clear hcells hno he
        go_wp2_with fail
        go_round
        case rel => exact ⟨i + 1, by omega, by go_num, HN.out⟩
        case measure => simp [intOf]; omega
    · obtain rfl : i = l.length := by omega
      have HNo := Lib.hid hno
      clear hno
      go_wp2
      go_ret
      exact ⟨⟨_, rfl, .inr ⟨rfl, HNo.out⟩⟩, rfl⟩
theorem nats_at {o : List Nat} {i : Nat} : (o.map (fun k : Nat => (k : Int))).getD i 0 = ((o.getD i 0 : Nat) : Int) := by
  rcases Nat.lt_or_ge i o.length with h | h
  · simp [h]
  · simp [List.getD_eq_getElem?_getD, h]
theorem place_contains {o : List Nat} {y : Nat} {r : Int} (h : (∃ i : Nat, r = i ∧ i < (o.map (fun k : Nat => (k : Int))).length ∧ (o.map (fun k : Nat => (k : Int))).getD i 0 = (y : Int) ∧ ∀ j, j < i → (o.map (fun k : Nat => (k : Int))).getD j 0 ≠ (y : Int)) ∨ (r = -1 ∧ ∀ j, j < (o.map (fun k : Nat => (k : Int))).length → (o.map (fun k : Nat => (k : Int))).getD j 0 ≠ (y : Int))) :
    (o.contains y = true ∧ 0 ≤ r) ∨ (o.contains y = false ∧ r = -1) := by
  rcases h with ⟨i, rfl, hi, he, _⟩ | ⟨rfl, h⟩
  · refine .inl ⟨?_, by omega⟩
    rw [nats_at] at he
    rw [List.length_map] at hi
    have e : o.getD i 0 = y := by omega
    have e2 : o.getD i 0 = o[i] := by simp [hi]
    rw [List.contains_iff_mem, ← e, e2]; exact List.getElem_mem hi
  · refine .inr ⟨?_, rfl⟩
    cases hc : o.contains y with
    | false => rfl
    | true =>
      rw [List.contains_iff_mem] at hc
      obtain ⟨i, hi, e⟩ := List.mem_iff_getElem.1 hc
      have := h i (by rw [List.length_map]; exact hi)
      rw [nats_at] at this
      have e2 : o.getD i 0 = o[i] := by simp [hi]
      omega
set_option maxHeartbeats 4000000 in
theorem refPermOrder_any (n num : Int) (r : List Int) (cc : Int) (w : World) (hR : OrderR n num r cc) (hn : I64 n) (hm : I64 num) :
    Calls Try.prog 30 #[.int .i64 n, .int .i64 num] w (GivesInts r cc w) := by
  rcases hR with ⟨h1, rfl, rfl⟩ | ⟨a, b, rfl, rfl, ha, hR⟩
  · by_cases g1 : n < 0
    · have t1 : decide (n < 0) = true := by simpa using g1
      clear h1
      go_enter Try.func30, Try.ntmps30
      go_wp2_with fail
      go_ret2
      exact ⟨_, rfl, isInts_nil _ _ _, Below.refl _ _⟩
    have t1 : decide (n < 0) = false := by simpa using g1
    by_cases g2 : 20 < n
    · have t2 : decide (20 < n) = true := by simpa using g2
      clear h1
      go_enter Try.func30, Try.ntmps30
      go_wp2_with fail
      go_ret2
      exact ⟨_, rfl, isInts_nil _ _ _, Below.refl _ _⟩
    have t2 : decide (20 < n) = false := by simpa using g2
    have t3 : decide (num < 0) = true := by simp; omega
    clear h1
    go_enter Try.func30, Try.ntmps30
    go_wp2_with fail
    go_ret2
    exact ⟨_, rfl, isInts_nil _ _ _, Below.refl _ _⟩
  · have t1 : decide ((a : Int) < 0) = false := by simp
    have t2 : decide (20 < (a : Int)) = false := by simp; omega
    have t3 : decide ((b : Int) < 0) = false := by simp
    have hO := fun W => orders_any a W ha
    have hf20 := fact_20 ha
    rcases hR with ⟨h1, rfl, rfl⟩ | ⟨h1, rfl, rfl⟩
    · have HO := Lib.hid hO
      generalize fact a = f at *
      have t4 : decide ((f : Int) ≤ (b : Int)) = true := by simp; omega
      clear hO
      go_enter Try.func30, Try.ntmps30
      go_wp2_with (go_at_call 55; refine (HO.out _).mono ?_; rintro e w1 ⟨rfl, rfl⟩)
      go_ret2
      exact ⟨_, rfl, isInts_nil _ _ _, Below.refl _ _⟩
    · have HO := Lib.hid hO
      have hmod : b = b % fact (a - 0) := by rw [Nat.sub_zero, Nat.mod_eq_of_lt h1]
      have HMod := Lib.hid hmod
      have t4 : decide ((fact a : Nat) ≤ b) = false := by simp; omega
      have t4' : decide (((fact a : Nat) : Int) ≤ (b : Int)) = false := by simp; omega
      obtain ⟨f, hf⟩ : ∃ f, f = fact a := ⟨_, rfl⟩
      rw [← hf] at t4 t4' HO
      clear hO hmod h1 hf20 hf
      go_enter Try.func30, Try.ntmps30
      go_wp2_with (go_at_call 55; refine (HO.out _).mono ?_; rintro e w1 ⟨rfl, rfl⟩)
      go_loopw [1, 6, 7] (fun nv ov iv wr => ∃ i x : Nat, i ≤ a ∧ iv = .int .i64 i ∧ nv = .int .i64 (x : Int) ∧ x = b % fact (a - i) ∧ wr.ownsRow w.heap.size 3 1 ov i (natVs (choseN a b i)) ∧ Below w.heap.size w wr) (fun _ _ iv _ => a - (intOf iv).toNat)
      case atStart => exact ⟨0, b, by omega, rfl, rfl, HMod.out, by rw [choseN_0, natVs_nil]; exact World.ownsRow_nil _ _ _ _, Below.refl _ _⟩
      case round =>
        obtain ⟨i, x, hi, rfl, rfl, hx, hown, hbel⟩ := hrel
        obtain ⟨A1, c1, rfl⟩ := own_shape hown
        have HOw := Lib.hid hown
        have HB := Lib.hid hbel
        have hz := hbel.size
        obtain ⟨hl1, hl2⟩ := chose_facts a b i hi
        by_cases hlt : i < a
        · have HOr := Lib.hid fun W => orders_any (a - 1 - i) W (by omega)
          have hsub : (a : Int) - 1 - (i : Int) = ((a - 1 - i : Nat) : Int) := by omega
          rw [← hsub] at HOr
          obtain ⟨hdig, hrest⟩ := dig_rest (num := b) hlt
          rw [← hx] at hdig hrest
          have hd := digN_lt (num := b) hlt
          have hpos := fact_pos (a - 1 - i)
          have hf20 := fact_20 (n := a - 1 - i) (by omega)
          have hxl : x < fact (a - i) := by rw [hx]; exact Nat.mod_lt _ (fact_pos _)
          have hxb := fact_20 (n := a - i) (by omega)
          have hcs := choseN_succ a b i
          have hIs := own_ints (k := .i64) (l := (choseN a b i).map (fun k : Nat => (k : Int))) (by rw [← natVs_ints]; exact hown) (by rw [List.length_map, hl1]; omega) (fun z hz => by
            obtain ⟨k, hk, rfl⟩ := List.mem_map.1 hz
            have := choseN_lt a b i hi k hk
            exact int_wf (by unfold I64; omega))
          have HIs := Lib.hid hIs
          have hfree := hl2
          generalize fact (a - 1 - i) = many at *
          generalize digN a b i = d at *
          have hdm : d * many ≤ x := by rw [← hdig]; exact Nat.div_mul_le_self _ _
          have hdm2 : x < (d + 1) * many := by
            have := Nat.lt_mul_div_succ x hpos
            rw [hdig, Nat.mul_comm] at this; exact this
          have hfin : x - d * many = b % fact (a - (i + 1)) := by
            have := Nat.div_add_mod x many
            rw [hdig, Nat.mul_comm] at this
            omega
          have HFin := Lib.hid hfin
          have HCS := Lib.hid hcs
          have HFree := Lib.hid hfree
          have hS := Nat.succ_mul d many
          obtain ⟨dm, hdmv⟩ : ∃ dm, dm = d * many := ⟨_, rfl⟩
          have HDM := Lib.hid hdmv
          rw [← hdmv] at hdm hS HFin
          rw [show (d + 1) * many = dm + many from by rw [hdmv]; exact Nat.succ_mul d many] at hdm2
          clear hown hbel hsub hfin hcs hdig hrest hx hS hdmv hfree hIs
          go_wp2_with (go_at_call 55; refine (HOr.out _).mono ?_; rintro e w1 ⟨rfl, rfl⟩)
          go_loop [1, 6, 9] (fun nv ov yv => ∃ y z t : Nat, y ≤ a ∧ yv = .int .i64 y ∧ nv = .int .i64 (z : Int) ∧ ov = .slice A1 i c1 ∧ t = (freeN (choseN a b i) y).length * many ∧ z + t = x ∧ (freeN (choseN a b i) y).length ≤ d) (fun _ _ yv => a - (intOf yv).toNat)
          case atStart => exact ⟨0, x, 0, by omega, rfl, rfl, rfl, by rw [freeN_0]; simp, by omega, by rw [freeN_0]; simp⟩
          case round =>
            obtain ⟨y, z, t, hy, rfl, rfl, rfl, ht, hzt, hcd⟩ := hrel
            by_cases hlt2 : y < a
            · have HP := Lib.hid (placeOf_any (.slice A1 i c1) ((choseN a b i).map (fun k : Nat => (k : Int))) (y : Int) wr wr.heap.size HIs.out)
              cases hc : (choseN a b i).contains y with
              | true =>
                have HC := Lib.hid hc
                have HN := Lib.hid (freeN_no hc)
                have HT := Lib.hid ht
                have HCD := Lib.hid hcd
                clear hc ht hcd
                go_wp2_with (go_at_call 56; refine (HP.out).mono ?_; rintro e w2 ⟨⟨rr, rfl, hrr⟩, rfl⟩; have hr0 : 0 ≤ rr := (by rcases place_contains hrr with ⟨_, h⟩ | ⟨h, _⟩; exact h; rw [HC.out] at h; cases h); clear hrr)
                go_round
                case rel => exact ⟨y + 1, z, t, by omega, by go_num, rfl, rfl, by rw [HN.out]; exact HT.out, hzt, by rw [HN.out]; exact HCD.out⟩
                case measure => simp [intOf]; omega
              | false =>
                have HC := Lib.hid hc
                have HN := Lib.hid (freeN_yes hc)
                by_cases hcnt : (freeN (choseN a b i) y).length = d
                · have his := freeN_is (m := a) (by rw [HFree.out]; exact hd) hlt2 hc hcnt
                  rw [hcnt] at ht
                  have HIs2 := Lib.hid his
                  have htd : t = dm := by rw [ht, HDM.out]
                  have hzm : z < many := by omega
                  have hzf : z = x - dm := by omega
                  have HZ := Lib.hid (hzf.trans HFin.out)
                  have HNS := Lib.hid (natVs_snoc (choseN a b i) y)
                  clear hc ht hcd hcnt his hzf
                  go_wp2_with (first
                    | (go_at_call 56; refine (HP.out).mono ?_; rintro e w2 ⟨⟨rr, rfl, hrr⟩, rfl⟩; have hr0 : rr = -1 := (by rcases place_contains hrr with ⟨h, _⟩ | ⟨_, h⟩; rw [HC.out] at h; cases h; exact h); subst hr0; clear hrr)
                    | (at_builtin; refine wpList_push el_int rfl (.tmp 48) (.tmp 50) rfl w.heap.size _ i _ (HOw.out.alloc _) rfl wr.heap.size 1 _ rfl (by simp; rfl) rfl (by omega) (by omega) (by simp; omega) ?_; intro v' w3 hown3 hg3))
                  exact ⟨⟨i + 1, z, by omega, by go_num, rfl, HZ.out, by rw [HCS.out, HIs2.out, HNS.out]; exact hown3, below_push (HB.out.alloc hz _) (HOw.out.alloc _) (Nat.le_refl _) (by simp; omega) hg3⟩, by simp [intOf]; omega⟩
                · have hcl : (freeN (choseN a b i) y).length + 1 ≤ d := by omega
                  have hmul := Nat.mul_le_mul_right many hcl
                  have hsm := Nat.succ_mul (freeN (choseN a b i) y).length many
                  rw [Nat.succ_eq_add_one] at hsm
                  rw [hsm, ← ht, ← HDM.out] at hmul
                  have hzm : many ≤ z := by omega
                  have HT2 : Hid (t + many = ((freeN (choseN a b i) y).length + 1) * many) := Lib.hid (by rw [hsm, ht])
                  have HCL := Lib.hid hcl
                  have t5 : decide ((z : Int) < (many : Int)) = false := by simp; omega
                  have t5' : decide (z < many) = false := by simp; omega
                  clear hc ht hcd hcnt hcl hsm
                  go_wp2_with (go_at_call 56; refine (HP.out).mono ?_; rintro e w2 ⟨⟨rr, rfl, hrr⟩, rfl⟩; have hr0 : rr = -1 := (by rcases place_contains hrr with ⟨h, _⟩ | ⟨_, h⟩; rw [HC.out] at h; cases h; exact h); subst hr0; clear hrr)
                  go_round
                  case rel => exact ⟨y + 1, z - many, t + many, by omega, by go_num, vint (by omega), rfl, by rw [HN.out]; exact HT2.out, by omega, by rw [HN.out]; exact HCL.out⟩
                  case measure => simp [intOf]; omega
            · have hya : y = a := by omega
              have := HFree.out
              rw [hya] at hcd
              omega
        · obtain rfl : i = a := by omega
          clear hown hbel hx
          go_wp2_with fail
          go_ret2
          have ho := HOw.out
          rw [natVs_ints] at ho
          exact ⟨_, rfl, own_ints ho (by rw [List.length_map, hl1]; omega) (chose_wf (by omega)), HB.out⟩
set_option maxHeartbeats 400000 in
theorem permOrders_walk (u1 u2 : Value) (w : World) (h1 : ∃ x : Int, u1 = .int .i64 x ∧ I64 x) (h2 : ∃ x : Int, u2 = .int .i64 x ∧ I64 x) :
    Calls Try.prog 10 #[u1, u2] w fun e w' => e = .returned (.bool true) ∧ Below w.heap.size w w' := by
  obtain ⟨n, rfl, hn⟩ := h1
  obtain ⟨num, rfl, hm⟩ := h2
  obtain ⟨r, cc, hR⟩ := OrderR.ex n num
  have H1 := Lib.hid (permOrder_any n num r cc w hR hn hm)
  have H2 := Lib.hid fun W => refPermOrder_any n num r cc W hR hn hm
  clear hR
  go_enter Try.func10, Try.ntmps10
  go_wp2_with (first
    | (go_at_call 29; refine (H1.out).mono ?_; rintro e w1 ⟨v1, rfl, hi1, hb1⟩)
    | (go_at_call 30; refine (H2.out _).mono ?_; rintro e w2 ⟨v2, rfl, hi2, hb2⟩)
    | (go_at_call 31; refine (sameInts_any v1 v2 r _ _ ((hi1.below hb2).more hb2.size) hi2).mono ?_; rintro e w3 ⟨rfl, hd⟩))
  go_ret
  exact ⟨ret_bool (by simp), (hb1.trans (hb2.mono hb1.size)).trans (hd.below _)⟩
end Go.Proofs.Ytmcfdlijkcibbaa
