/-
  Contracts of perm.Number and the reference's PermNumber, and the walk of the law PermNumbers. Conditions: the argument is a list of ints.
-/
import Derived.Test.YtjnndbllaplkcaaPermInverse
namespace Go.Dam
open Go Go.RowKit
set_option linter.unusedVariables false
/-- The first i of a list, in memory. -/
theorem IsInts.take_ {w : World} {B : Nat} {A : Option Addr} {c i : Nat} {l : List Int} (h : IsInts .i64 w B (.slice A l.length c) l) (hi : i ≤ l.length) (h0 : 0 < l.length) : IsInts .i64 w B (.slice A i c) (l.take i) := by
  obtain ⟨A', c', hv, hc, hm, hn, hr, hw⟩ := h
  obtain ⟨rfl, rfl⟩ : A = A' ∧ c = c' := by injection hv with a b c; exact ⟨a, c⟩
  have hl : (l.take i).length = i := by rw [List.length_take]; omega
  refine ⟨A, c, by rw [hl], by omega, hm, by omega, ?_, fun z hz => hw z (List.mem_of_mem_take hz)⟩
  obtain ⟨b, off, rfl, hb, hcells⟩ := ints_cells hr h0
  refine ⟨by simp, fun _ => ⟨_, rfl, hb, fun j u hu => ?_⟩⟩
  have e : (⟨b, off, none⟩ : Addr).add j = ⟨b, off + j, none⟩ := by unfold Addr.add; split <;> simp_all
  have hj : j < i := by
    rcases Nat.lt_or_ge j i with g | g
    · exact g
    · rw [List.getElem?_eq_none (by rw [List.length_map, hl]; exact g)] at hu; cases hu
  rw [e, hcells j (by omega), ← hu]
  rw [List.getElem?_map, List.getElem?_take_of_lt hj]
  simp [show j < l.length by omega]
theorem numTo_le {p : List Nat} {i : Nat} (h : i ≤ p.length) : numTo p i < fact p.length := by
  have h1 := numTo_lt h
  have h2 := fact_pos (p.length - i)
  have : numTo p i + 1 ≤ (numTo p i + 1) * fact (p.length - i) := Nat.le_mul_of_pos_right _ h2
  omega
theorem free_bound {l : List Int} {p : List Nat} (h : IsOrder l p) {i y : Nat} (hi : i < p.length) (hy : y ≤ p.getD i 0) : numTo p i * fact (p.length - i) + (freeN (p.take i) y).length * fact (p.length - 1 - i) ≤ fact p.length := by
  have h1 := less_free h hi
  have h2 := freeN_mono (p.take i) hy
  rw [h1] at h2
  have h3 := numTo_fact hi
  have h4 := numTo_lt (p := p) (i := i + 1) (by omega)
  rw [show p.length - (i + 1) = p.length - 1 - i from by omega, Nat.add_mul] at h4
  have h5 := Nat.mul_le_mul_right (fact (p.length - 1 - i)) h2
  omega
theorem free_end {l : List Int} {p : List Nat} (h : IsOrder l p) {i : Nat} (hi : i < p.length) : numTo p i * fact (p.length - i) + (freeN (p.take i) (p.getD i 0)).length * fact (p.length - 1 - i) = numTo p (i + 1) * fact (p.length - (i + 1)) := by
  rw [less_free h hi, ← numTo_fact hi, show p.length - (i + 1) = p.length - 1 - i from by omega]
theorem freeN_stepN {o : List Nat} {y : Nat} (h : o.contains y = true) : freeN o (y + 1) = freeN o y := by rw [freeN_succ, if_pos h]
theorem freeN_stepY {o : List Nat} {y : Nat} (h : o.contains y = false) : (freeN o (y + 1)).length = (freeN o y).length + 1 := by rw [freeN_succ, if_neg (by rw [h]; simp)]; simp
end Go.Dam
namespace Go.Proofs.Ytjnndbllaplkcaa
open Go Go.RowKit Go.Dam
set_option linter.unusedVariables false
set_option maxHeartbeats 2000000 in
theorem permNumber_any (v : Value) (l : List Int) (x cc : Int) (w : World) (B : Nat) (hB : B ≤ w.heap.size) (h : IsInts .i64 w B v l) (hR : NumR l x cc) :
    Calls Try.prog 34 #[v] w fun e w' => e = .returned (.tuple #[.int .i64 x, .int .i64 cc]) ∧ Below w.heap.size w w' := by
  have HP := fun c hc => permCheck_any v l c w B hB h hc
  obtain ⟨A, c, rfl, hc, hm, hn, hr, hw⟩ := h
  rcases hR with ⟨hf, hc0, rfl⟩ | ⟨hf, hl, rfl, rfl⟩ | ⟨hf, hl, rfl, p, hp, rfl⟩
  · have HP := Lib.hid (HP _ hf)
    have t0 : (cc != 0) = true := by simpa using hc0
    clear hr hw hf hc0
    go_enter Try.func34, Try.ntmps34
    go_wp2_with (go_at_call 24; refine (HP.out).mono ?_; rintro e w1 ⟨rfl, hb1⟩)
    go_ret2
    exact ⟨rfl, hb1⟩
  · have HP := Lib.hid (HP _ hf)
    clear hr hw hf
    go_enter Try.func34, Try.ntmps34
    go_wp2_with (go_at_call 24; refine (HP.out).mono ?_; rintro e w1 ⟨rfl, hb1⟩)
    go_ret2
    exact ⟨rfl, hb1⟩
  · have HP := Lib.hid (HP _ hf)
    have HPi := Lib.hid hp
    have HPL := Lib.hid (order_len hp)
    have HF20 := Lib.hid (fact_20 hl)
    clear hw hf hp
    go_enter Try.func34, Try.ntmps34
    go_wp2_with (go_at_call 24; refine (HP.out).mono ?_; rintro e w1 ⟨rfl, hb1⟩)
    have hz1 := hb1.size
    go_loop [5, 6, 7, 8, 10, 21] (fun nv zv xv lv yv iv => ∃ i : Nat, i ≤ l.length ∧ iv = .int .i64 i ∧ nv = .int .i64 ((numTo p i : Nat) : Int)) (fun _ _ _ _ _ iv => l.length - (intOf iv).toNat)
    case atStart => exact ⟨0, by omega, rfl, by rw [numTo_0]; rfl⟩
    case round =>
      obtain ⟨i, hi, rfl, rfl⟩ := hrel
      by_cases hlt : i < l.length
      · obtain ⟨b, off, rfl, hb, hcells⟩ := ints_cells hr (by omega)
        have k0 := (hb1.cell (p := ⟨b, off + i, none⟩) (by simp; omega)).trans (hcells i hlt)
        have hpi : i < p.length := by rw [HPL.out]; exact hlt
        obtain ⟨o1, o2⟩ := order_at HPi.out hpi
        rw [o1] at k0
        have HAt : Hid (∀ k, i + 1 + k < l.length → w1.cell? ⟨b, off + (i + 1) + k, none⟩ = some (.int .i64 ((p.getD (i + 1 + k) 0 : Nat) : Int))) := Lib.hid fun k hk => by
          rw [show off + (i + 1) + k = off + (i + 1 + k) from by omega, (hb1.cell (p := ⟨b, off + (i + 1 + k), none⟩) (by simp; omega)).trans (hcells _ hk), (order_at HPi.out (i := i + 1 + k) (by rw [HPL.out]; exact hk)).1]
        have HS := Lib.hid (numTo_succ p i)
        have hbn := numTo_le (p := p) (i := i + 1) (by omega)
        rw [numTo_succ, HPL.out] at hbn
        rw [HPL.out] at HS
        have hf20 := HF20.out
        have HLe := Lib.hid fun k => lessTo_le p i k
        have HLY := Lib.hid fun k hk => lessTo_yes (p := p) (i := i) (k := k) hk
        have HLN := Lib.hid fun k hk => lessTo_no (p := p) (i := i) (k := k) hk
        have HL0 := Lib.hid (lessTo_0 p i)
        have HLend := Lib.hid (lessTo_end (p := p) (i := i))
        generalize hnn : numTo p i = nn at *
        generalize hmm : nn * (l.length - i) = mm at *
        have HMM := Lib.hid hmm
        generalize hkk : lessN p i = kk at *
        have hb2 : mm + kk < 2432902008176640000 := by omega
        have t5 : (nn : Int) * ((l.length : Int) - (i : Int)) = (mm : Int) := by rw [← HMM.out]; rw [Int.natCast_mul, Int.ofNat_sub (by omega)]
        generalize hxx : p.getD i 0 = xx at *
        clear hcells o1 hnn hmm hkk hbn hxx
        go_wp2_with fail
        all_goals go_loop [8, 10, 31] (fun lv yv kv => ∃ k : Nat, k ≤ l.length - (i + 1) ∧ kv = .int .i64 k ∧ lv = .int .i64 ((lessTo p i k : Nat) : Int)) (fun _ _ kv => l.length - (i + 1) - (intOf kv).toNat)
        all_goals try (case atStart => exact ⟨0, by omega, rfl, by rw [HL0.out]; rfl⟩)
        all_goals
          case round =>
            obtain ⟨k, hk, rfl, rfl⟩ := hrel
            by_cases hkl : k < l.length - (i + 1)
            · first
              | (exfalso; omega)
              | (have q0 := HAt.out k (by omega)
                 have hle := HLe.out k
                 by_cases hless : p.getD (i + 1 + k) 0 < xx
                 · have HV := Lib.hid (HLY.out k (by rw [HPL.out]; omega) hless)
                   generalize p.getD (i + 1 + k) 0 = y at *
                   go_wp2_with fail
                   go_round
                   case rel => exact ⟨k + 1, by omega, by go_num, by rw [HV.out]; go_num⟩
                   case measure => simp [intOf]; omega
                 · have HV := Lib.hid (HLN.out k (by rw [HPL.out]; omega) hless)
                   generalize p.getD (i + 1 + k) 0 = y at *
                   go_wp2_with fail
                   go_round
                   case rel => exact ⟨k + 1, by omega, by go_num, by rw [HV.out]⟩
                   case measure => simp [intOf]; omega)
            · obtain rfl : k = l.length - (i + 1) := by omega
              have e := HLend.out
              rw [HPL.out] at e
              rw [e]
              clear e HLend
              have HS2 : Hid (((mm : Int) + (kk : Int)) = ((numTo p (i + 1) : Nat) : Int)) := Lib.hid (by rw [HS.out]; simp)
              go_wp2_with fail
              first
                | exact ⟨⟨i + 1, by omega, by go_num, vint HS2.out⟩, by simp [intOf]; omega⟩
                | (refine ⟨⟨_, _, _, _, _, _, ⟨i + 1, by omega, ?_, ?_⟩, rfl, rfl, rfl, rfl, rfl, rfl⟩, by simp [intOf]; omega⟩
                   · go_num
                   · exact vint HS2.out)
      · obtain rfl : i = l.length := by omega
        rw [← HPL.out]
        clear hr
        go_wp2
        go_ret2
        exact ⟨rfl, hb1⟩
theorem place_take {l : List Int} {p : List Nat} (h : IsOrder l p) {i y : Nat} {r : Int} (hr : (∃ k : Nat, r = k ∧ k < (l.take i).length ∧ (l.take i).getD k 0 = (y : Int) ∧ ∀ j, j < k → (l.take i).getD j 0 ≠ (y : Int)) ∨ (r = -1 ∧ ∀ j, j < (l.take i).length → (l.take i).getD j 0 ≠ (y : Int))) :
    ((p.take i).contains y = true ∧ 0 ≤ r) ∨ ((p.take i).contains y = false ∧ r = -1) := by
  rw [h.1, toInts_take, toInts_eq] at hr
  exact place_contains hr
set_option maxHeartbeats 4000000 in
theorem refPermNumber_any (v : Value) (l : List Int) (x cc : Int) (w : World) (B : Nat) (hB : B ≤ w.heap.size) (h : IsInts .i64 w B v l) (hR : NumR l x cc) :
    Calls Try.prog 35 #[v] w fun e w' => e = .returned (.tuple #[.int .i64 x, .int .i64 cc]) ∧ Below w.heap.size w w' := by
  have HP := fun c hc => permFault_any v l c w B hB h hc
  have hI := h
  obtain ⟨A, c, rfl, hc, hm, hn, hr, hw⟩ := h
  rcases hR with ⟨hf, hc0, rfl⟩ | ⟨hf, hl, rfl, rfl⟩ | ⟨hf, hl, rfl, p, hp, rfl⟩
  · have HP := Lib.hid (HP _ hf)
    have t0 : (cc != 0) = true := by simpa using hc0
    clear hr hw hf hc0 hI
    go_enter Try.func35, Try.ntmps35
    go_wp2_with (go_at_call 25; refine (HP.out).mono ?_; rintro e w1 ⟨rfl, hb1⟩)
    go_ret2
    exact ⟨rfl, hb1⟩
  · have HP := Lib.hid (HP _ hf)
    clear hr hw hf hI
    go_enter Try.func35, Try.ntmps35
    go_wp2_with (go_at_call 25; refine (HP.out).mono ?_; rintro e w1 ⟨rfl, hb1⟩)
    go_ret2
    exact ⟨rfl, hb1⟩
  · have HP := Lib.hid (HP _ hf)
    have HPi := Lib.hid hp
    have HPL := Lib.hid (order_len hp)
    have HF20 := Lib.hid (fact_20 hl)
    have HI := Lib.hid (fun W (hb : Below w.heap.size w W) i (hi : i < l.length) (y : Nat) => placeOf_any (.slice A i c) (l.take i) (y : Int) W w.heap.size (((hI.more hB).below hb).take_ (by omega) (by omega)))
    clear hw hf hp hI
    go_enter Try.func35, Try.ntmps35
    go_wp2_with (go_at_call 25; refine (HP.out).mono ?_; rintro e w1 ⟨rfl, hb1⟩)
    have hz1 := hb1.size
    go_loop [5, 6, 7, 8, 19] (fun nv zv xv yv iv => ∃ i : Nat, i ≤ l.length ∧ iv = .int .i64 i ∧ nv = .int .i64 ((numTo p i * fact (l.length - i) : Nat) : Int)) (fun _ _ _ _ iv => l.length - (intOf iv).toNat)
    case atStart => exact ⟨0, by omega, rfl, by rw [numTo_0, Nat.zero_mul]; rfl⟩
    case round =>
      obtain ⟨i, hi, rfl, rfl⟩ := hrel
      by_cases hlt : i < l.length
      · obtain ⟨b, off, rfl, hb, hcells⟩ := ints_cells hr (by omega)
        have k0 := (hb1.cell (p := ⟨b, off + i, none⟩) (by simp; omega)).trans (hcells i hlt)
        have hpi : i < p.length := by rw [HPL.out]; exact hlt
        obtain ⟨o1, o2⟩ := order_at HPi.out hpi
        rw [o1] at k0
        rw [HPL.out] at o2
        have HOr := Lib.hid fun W => orders_any (l.length - 1 - i) W (by omega)
        have hsub : (l.length : Int) - 1 - (i : Int) = ((l.length - 1 - i : Nat) : Int) := by omega
        rw [← hsub] at HOr
        have HI := Lib.hid (HI.out w1 hb1 i hlt)
        have hBd := fun y hy => free_bound HPi.out (i := i) (y := y) hpi hy
        have hEnd := free_end HPi.out hpi
        rw [HPL.out] at hBd hEnd
        have hf20 := HF20.out
        generalize numTo p i * fact (l.length - i) = a at *
        generalize fact (l.length - 1 - i) = f at *
        have hf : f ≤ fact l.length ∨ True := .inr trivial
        generalize p.getD i 0 = xx at *
        have HEnd := Lib.hid hEnd
        have HBd := Lib.hid hBd
        have ha : a ≤ 2432902008176640000 := by have := hBd 0 (by omega); omega
        clear hcells o1 hsub hBd hEnd hf hr
        go_wp2_with fail
        go_loop [5, 8] (fun nv yv => ∃ y s : Nat, y ≤ xx ∧ yv = .int .i64 y ∧ nv = .int .i64 (s : Int) ∧ s = a + (freeN (p.take i) y).length * f) (fun _ yv => xx - (intOf yv).toNat)
        case atStart => exact ⟨0, a, by omega, rfl, rfl, by rw [freeN_0]; simp⟩
        case round =>
          obtain ⟨y, s, hy, rfl, rfl, hs⟩ := hrel
          by_cases hlt2 : y < xx
          · have HC := Lib.hid (HI.out y)
            cases hc : (p.take i).contains y with
            | true =>
              have HCC := Lib.hid hc
              have HN := Lib.hid (freeN_stepN hc)
              have HS := Lib.hid hs
              clear hc hs
              go_wp2_with (go_at_call 52; refine (HC.out).mono ?_; rintro e w2 ⟨⟨rr, rfl, hrr⟩, rfl⟩; have hr0 : 0 ≤ rr := (by rcases place_take HPi.out hrr with ⟨_, h⟩ | ⟨h, _⟩; exact h; rw [HCC.out] at h; cases h); clear hrr)
              go_round
              case rel => exact ⟨y + 1, s, by omega, by go_num, rfl, by rw [HN.out]; exact HS.out⟩
              case measure => simp [intOf]; omega
            | false =>
              have HCC := Lib.hid hc
              have hN := freeN_stepY hc
              have HS : Hid (s + f = a + (freeN (p.take i) (y + 1)).length * f) := Lib.hid (by rw [hN, Nat.add_mul, hs]; omega)
              have hb2 := HBd.out (y + 1) (by omega)
              rw [← HS.out] at hb2
              clear hc hs hN
              go_wp2_with (first
                | (go_at_call 52; refine (HC.out).mono ?_; rintro e w2 ⟨⟨rr, rfl, hrr⟩, rfl⟩; have hr0 : rr = -1 := (by rcases place_take HPi.out hrr with ⟨h, _⟩ | ⟨_, h⟩; rw [HCC.out] at h; cases h; exact h); subst hr0; clear hrr)
                | (go_at_call 53; refine (HOr.out _).mono ?_; rintro e w3 ⟨rfl, rfl⟩))
              go_round
              case rel => exact ⟨y + 1, s + f, by omega, by go_num, by go_num, HS.out⟩
              case measure => simp [intOf]; omega
          · obtain rfl : y = xx := by omega
            rw [HEnd.out] at hs
            have HS := Lib.hid hs
            clear hs
            go_wp2_with fail
            exact ⟨⟨i + 1, by omega, by go_num, by rw [HS.out]⟩, by simp [intOf]; omega⟩
      · obtain rfl : i = l.length := by omega
        rw [Nat.sub_self, fact_0, Nat.mul_one, ← HPL.out]
        clear hr
        go_wp2
        go_ret2
        exact ⟨rfl, hb1⟩
set_option maxHeartbeats 400000 in
theorem permNumbers_walk (v : Value) (w : World) (h : ∃ l, IsInts .i64 w w.heap.size v l) :
    Calls Try.prog 11 #[v] w fun e w' => e = .returned (.bool true) ∧ Below w.heap.size w w' := by
  obtain ⟨l, h⟩ := h
  obtain ⟨r, cc, hR⟩ := NumR.ex l
  have H1 := Lib.hid (permNumber_any v l r cc w _ (Nat.le_refl _) h hR)
  have H2 := Lib.hid fun W (hb : Below w.heap.size w W) => refPermNumber_any v l r cc W _ hb.size (h.below hb) hR
  obtain ⟨A, c, rfl, hc, hm, hn, hr, hw⟩ := h
  clear hr hw hR
  go_enter Try.func11, Try.ntmps11
  go_wp2_with (first
    | (go_at_call 34; refine (H1.out).mono ?_; rintro e w1 ⟨rfl, hb1⟩)
    | (go_at_call 35; refine (H2.out _ hb1).mono ?_; rintro e w2 ⟨rfl, hb2⟩))
  go_ret
  exact ⟨ret_bool (by simp), hb1.trans (hb2.mono hb1.size)⟩
end Go.Proofs.Ytjnndbllaplkcaa
