/-
  Contracts of fen.Add and the reference's FenAdd, and the walk of the law FenAdds: a number is added at a place. Conditions: the arguments can be read as data.
-/
import Derived.Test.YtiflelifkjfpdaaFenMay
import Derived.Test.YtiflelifkjfpdaaCloneInts
namespace Go.Dam
open Go Go.RowKit
def covers (j k : Nat) : Bool := decide (fenLo j ≤ k ∧ k ≤ j)
theorem covers_yes {j k : Nat} : covers j k = true ↔ (fenLo j ≤ k ∧ k ≤ j) := by simp [covers]
theorem covers_no {j k : Nat} (h : ¬ (fenLo j ≤ k ∧ k ≤ j)) : covers j k = false := by simpa [covers] using h
/-- The table, of its first n places, with a number added at place k. -/
def fenPlus (t : List Int) (k : Nat) (d : Int) (n : Nat) : List Int := (List.range n).map fun j => t.getD j 0 + if covers j k = true then d else 0
/-- The table while it is added to: those that cover place i still lack it. -/
def fenPart (t : List Int) (k : Nat) (d : Int) (i : Nat) : List Int := (List.range t.length).map fun j => t.getD j 0 + if covers j k = true ∧ covers j i = false then d else 0
theorem fenPlus_length (t : List Int) (k : Nat) (d : Int) (n : Nat) : (fenPlus t k d n).length = n := by simp [fenPlus]
theorem fenPart_length (t : List Int) (k : Nat) (d : Int) (n : Nat) : (fenPart t k d n).length = t.length := by simp [fenPart]
theorem fenPlus_at {t : List Int} {k : Nat} {d : Int} {n j : Nat} (h : j < n) : (fenPlus t k d n).getD j 0 = t.getD j 0 + if covers j k = true then d else 0 := by simp [fenPlus, h]
theorem fenPart_at {t : List Int} {k : Nat} {d : Int} {i j : Nat} (h : j < t.length) : (fenPart t k d i).getD j 0 = t.getD j 0 + if covers j k = true ∧ covers j i = false then d else 0 := by simp [fenPart, h]
theorem fenPlus_succ (t : List Int) (k : Nat) (d : Int) (n : Nat) : fenPlus t k d (n + 1) = fenPlus t k d n ++ [t.getD n 0 + if covers n k = true then d else 0] := by simp [fenPlus, List.range_succ]
theorem fenPlus_0 (t : List Int) (k : Nat) (d : Int) : fenPlus t k d 0 = [] := rfl
theorem ext_getD {a b : List Int} (h : a.length = b.length) (h2 : ∀ k, k < a.length → a.getD k 0 = b.getD k 0) : a = b := by
  apply List.ext_getElem h
  intro k h3 h4
  have := h2 k h3
  rw [List.getD_eq_getElem?_getD, List.getD_eq_getElem?_getD, List.getElem?_eq_getElem h3, List.getElem?_eq_getElem h4] at this
  simpa using this
theorem fenPart_0 (t : List Int) (k : Nat) (d : Int) : fenPart t k d k = t := by
  refine ext_getD (fenPart_length ..) fun j hj => ?_
  rw [fenPart_length] at hj
  rw [fenPart_at hj, if_neg (by rintro ⟨a, b⟩; rw [a] at b; cases b)]; omega
theorem fenPart_end {t : List Int} {k : Nat} {d : Int} {i : Nat} (hi : t.length ≤ i) : fenPart t k d i = fenPlus t k d t.length := by
  refine ext_getD (by rw [fenPart_length, fenPlus_length]) fun j hj => ?_
  rw [fenPart_length] at hj
  rw [fenPart_at hj, fenPlus_at hj]
  congr 1
  have : covers j i = false := covers_no (by omega)
  rw [this]; simp
theorem fenPart_set {t : List Int} {k : Nat} {d : Int} {i : Nat} (hl : t.length ≤ 300) (hi : i < t.length) (hk : covers i k = true) : (fenPart t k d i).set i ((fenPart t k d i).getD i 0 + d) = fenPart t k d (fenUp i) := by
  refine ext_getD (by rw [List.length_set, fenPart_length, fenPart_length]) fun j hj => ?_
  rw [List.length_set, fenPart_length] at hj
  have hup := fenUp_gt i
  by_cases h : i = j
  · subst h
    rw [show ∀ (a : List Int) (j : Nat) (x : Int), j < a.length → (a.set j x).getD j 0 = x from fun a j x h => by simp [h]]
    · rw [fenPart_at hi, fenPart_at hi, if_neg, if_pos]
      · omega
      · exact ⟨hk, covers_no (by omega)⟩
      · rintro ⟨_, b⟩
        have := covers_yes.2 ⟨fenLo_le i, Nat.le_refl i⟩
        rw [this] at b; cases b
    · rw [fenPart_length]; exact hi
  · rw [show ∀ (a : List Int) (j : Nat) (x : Int), j ≠ i → (a.set i x).getD j 0 = a.getD j 0 from fun a j x h => by simp [Ne.symm h]]
    · rw [fenPart_at hj, fenPart_at hj]
      have hc := chain_step (i := i) (k := j) (by omega) (by omega)
      have e : covers j i = covers j (fenUp i) := by
        rw [Bool.eq_iff_iff, covers_yes, covers_yes]
        constructor
        · intro h2
          rcases hc.1 h2 with h3 | h3
          · omega
          · exact h3
        · intro h2; exact hc.2 (.inr h2)
      rw [e]
    · exact fun e => h e.symm
/-- Whoever covers the next place, covers the place itself. -/
theorem covers_next {i k : Nat} (hi : i < 300) (h : ∀ j, j < 300 → covers j i = true → covers j k = true) : ∀ j, j < 300 → covers j (fenUp i) = true → covers j k = true := by
  intro j hj hc
  exact h j hj (covers_yes.2 ((chain_step hi hj).2 (.inr (covers_yes.1 hc))))
theorem fenPart_bd {t : List Int} {k : Nat} {d : Int} {i : Nat} (h : ∀ i, -1099511627776 ≤ t.getD i 0 ∧ t.getD i 0 ≤ 1099511627776) (hd : -1048576 ≤ d ∧ d ≤ 1048576) {j : Nat} (hj : j < t.length) : -2000000000000 ≤ (fenPart t k d i).getD j 0 ∧ (fenPart t k d i).getD j 0 ≤ 2000000000000 := by
  rw [fenPart_at hj]
  have := h j
  split <;> omega
theorem fenPlus_wf {t : List Int} {k : Nat} {d : Int} (h : ∀ i, -1099511627776 ≤ t.getD i 0 ∧ t.getD i 0 ≤ 1099511627776) (hd : -1048576 ≤ d ∧ d ≤ 1048576) {n : Nat} : ∀ z ∈ fenPlus t k d n, (Lit.int .i64 z).wf = true := by
  intro z hz
  obtain ⟨j, hj, rfl⟩ := List.mem_iff_getElem.1 hz
  rw [fenPlus_length] at hj
  have e := fenPlus_at (t := t) (k := k) (d := d) hj
  rw [List.getD_eq_getElem?_getD, List.getElem?_eq_getElem (by rw [fenPlus_length]; exact hj)] at e
  simp only [Option.getD_some] at e
  have := h j
  refine int_wf ?_
  rw [e]; unfold I64; split <;> omega
attribute [irreducible] covers fenPlus fenPart
/-- What Add answers. -/
def FenAddR (t : List Int) (i d : Int) (r : List Int) (c : Int) : Prop :=
  (fenMayB t = false ∧ r = [] ∧ c = 4) ∨ (fenMayB t = true ∧ (i < 0 ∨ (t.length : Int) ≤ i ∨ coordOk d = false) ∧ r = [] ∧ c = 2) ∨
  (fenMayB t = true ∧ ∃ k : Nat, i = k ∧ k < t.length ∧ coordOk d = true ∧ ((fenMayB (fenPlus t k d t.length) = false ∧ r = [] ∧ c = 1) ∨ (fenMayB (fenPlus t k d t.length) = true ∧ r = fenPlus t k d t.length ∧ c = 0)))
theorem FenAddR.ex (t : List Int) (i d : Int) : ∃ r c, FenAddR t i d r c := by
  cases h : fenMayB t with
  | false => exact ⟨_, _, .inl ⟨h, rfl, rfl⟩⟩
  | true =>
    by_cases h2 : i < 0 ∨ (t.length : Int) ≤ i ∨ coordOk d = false
    · exact ⟨_, _, .inr (.inl ⟨h, h2, rfl, rfl⟩)⟩
    · have hd : coordOk d = true := by
        cases e : coordOk d with
        | true => rfl
        | false => exact absurd (.inr (.inr e)) h2
      cases e : fenMayB (fenPlus t i.toNat d t.length) with
      | false => exact ⟨_, _, .inr (.inr ⟨h, i.toNat, by omega, by omega, hd, .inl ⟨e, rfl, rfl⟩⟩)⟩
      | true => exact ⟨_, _, .inr (.inr ⟨h, i.toNat, by omega, by omega, hd, .inr ⟨e, rfl, rfl⟩⟩)⟩
end Go.Dam
namespace Go.Proofs.Ytiflelifkjfpdaa
open Go Go.RowKit Go.Dam
set_option linter.unusedVariables false
set_option maxHeartbeats 1000000 in
theorem fenAdd_any (v : Value) (l : List Int) (i d : Int) (r : List Int) (cc : Int) (w : World) (B : Nat) (hB : B ≤ w.heap.size) (h : IsInts .i64 w B v l) (hR : FenAddR l i d r cc) :
    Calls Try.prog 24 #[v, .int .i64 i, .int .i64 d] w (GivesInts r cc w) := by
  have HM := fun b (hb : fenMayB l = b) => fenMay_any v l b w B h hb
  rcases hR with ⟨h1, rfl, rfl⟩ | ⟨h1, h2, rfl, rfl⟩ | ⟨h1, k, rfl, hk, hd, h2⟩
  · have HM := Lib.hid (HM _ h1)
    obtain ⟨A, c, rfl, hc, hm, hn, hr, hw⟩ := h
    clear h1 hr hw
    go_enter Try.func24, Try.ntmps24
    go_wp2_with (go_at_call 52; refine (HM.out).mono ?_; rintro e w1 ⟨rfl, rfl⟩)
    go_ret2
    exact ⟨_, rfl, isInts_nil _ _ _, Below.refl _ _⟩
  · have HM := Lib.hid (HM _ h1)
    obtain ⟨A, c, rfl, hc, hm, hn, hr, hw⟩ := h
    clear h1 hr hw
    by_cases g1 : i < 0
    · have t1 : decide (i < 0) = true := by simpa using g1
      clear h2
      go_enter Try.func24, Try.ntmps24
      go_wp2_with (go_at_call 52; refine (HM.out).mono ?_; rintro e w1 ⟨rfl, rfl⟩)
      go_ret2
      exact ⟨_, rfl, isInts_nil _ _ _, Below.refl _ _⟩
    have t1 : decide (i < 0) = false := by simpa using g1
    by_cases g2 : (l.length : Int) ≤ i
    · have t2 : decide ((l.length : Int) ≤ i) = true := by simpa using g2
      clear h2
      go_enter Try.func24, Try.ntmps24
      go_wp2_with (go_at_call 52; refine (HM.out).mono ?_; rintro e w1 ⟨rfl, rfl⟩)
      go_ret2
      exact ⟨_, rfl, isInts_nil _ _ _, Below.refl _ _⟩
    have t2 : decide ((l.length : Int) ≤ i) = false := by simpa using g2
    have hd : coordOk d = false := by
      rcases h2 with a | a | a
      · exact absurd a g1
      · exact absurd a g2
      · exact a
    have HD := Lib.hid fun W => fenNear_any d false W hd
    clear h2 hd
    go_enter Try.func24, Try.ntmps24
    go_wp2_with (first
      | (go_at_call 52; refine (HM.out).mono ?_; rintro e w1 ⟨rfl, rfl⟩)
      | (go_at_call 49; refine (HD.out _).mono ?_; rintro e w1 ⟨rfl, rfl⟩))
    go_ret2
    exact ⟨_, rfl, isInts_nil _ _ _, Below.refl _ _⟩
  · have HM := Lib.hid (HM _ h1)
    obtain ⟨hl, _, hok⟩ := fenMay_yes h1
    have HC := Lib.hid (cloneInts_any v l w B hB h (by omega))
    have HD := Lib.hid fun W => fenNear_any d true W hd
    have HOk := Lib.hid hok
    have HE := Lib.hid h2
    have bd := coordOk_yes hd
    obtain ⟨A, c, rfl, hc, hm, hn, hr, hw⟩ := h
    have t1 : decide ((k : Int) < 0) = false := by simp
    have t2 : decide (l.length ≤ k) = false := by simp; omega
    clear h1 h2 hd hok hr hw
    go_enter Try.func24, Try.ntmps24
    go_wp2_with (first
      | (go_at_call 52; refine (HM.out).mono ?_; rintro e w1 ⟨rfl, rfl⟩)
      | (go_at_call 49; refine (HD.out _).mono ?_; rintro e w1 ⟨rfl, rfl⟩)
      | (go_at_call 50; refine (HC.out).mono ?_; rintro e w1 ⟨u, rfl, hown, hb1⟩; obtain ⟨A2, c2, rfl⟩ := own_shape hown))
    clear t1 t2
    have hz1 := hb1.size
    go_loopw [1] (fun iv wr => ∃ i : Nat, i < 9000000 ∧ iv = .int .i64 i ∧ (∀ j, j < 300 → covers j i = true → covers j k = true) ∧ wr.ownsRow w.heap.size 3 1 (.slice A2 l.length c2) l.length ((fenPart l k d i).map (Value.int .i64)) ∧ Below w.heap.size w wr) (fun iv _ => l.length - (intOf iv).toNat)
    case atStart => exact ⟨k, by omega, rfl, fun _ _ h => h, by rw [fenPart_0]; exact hown, hb1⟩
    case round =>
      clear hown hb1
      obtain ⟨i, hi9, rfl, hcov, hown, hbel⟩ := hrel
      have HO := Lib.hid hown
      have HB := Lib.hid hbel
      by_cases hlt : i < l.length
      · obtain ⟨g, cap, hf, hgB, hgl⟩ := hown.form (by omega)
        obtain ⟨rfl, rfl⟩ : A2 = some ⟨g, 0, none⟩ ∧ c2 = cap := by injection hf with a b c; exact ⟨a, c⟩
        have hup := fenUp_int i (by omega)
        have hgt := fenUp_gt i
        have k0 : wr.cell? ⟨g, i, none⟩ = some (.int .i64 ((fenPart l k d i).getD i 0)) := by
          rw [hown.cellAt i (by omega)]; simp [fenPart_length, hlt]
        have f1 := hown.frozenAt i
        have HS := (hown.stored i (.int .i64 ((fenPart l k d i).getD i 0 + d))).1
        rw [← List.map_set, fenPart_set hl hlt (hcov i (by omega) (covers_yes.2 ⟨fenLo_le i, Nat.le_refl _⟩))] at HS
        have HS := Lib.hid HS
        have HCov := Lib.hid (covers_next (by omega : i < 300) hcov)
        have bi := fenPart_bd (k := k) (i := i) HOk.out bd hlt
        have hu9 : fenUp i < 9000000 := by
          unfold fenUp
          exact Nat.lt_of_lt_of_le (Nat.or_lt_two_pow (n := 10) (by omega) (by omega)) (by decide)
        generalize (fenPart l k d i).getD i 0 = x at *
        generalize fenUp i = q at *
        clear hown hbel hf hcov
        go_wp2_with fail
        go_roundw
        case rel => exact ⟨q, hu9, rfl, HCov.out, HS.out, HB.out.setCell (p := ⟨g, i, none⟩) hgB _⟩
        case measure => simp [intOf]; omega
      · have hown2 := hown
        rw [fenPart_end (by omega : l.length ≤ i)] at hown2
        have hints := own_ints hown2 (by rw [fenPlus_length]; omega) (fenPlus_wf HOk.out bd)
        have HI := Lib.hid hints
        have HMM := Lib.hid fun b (hb : fenMayB (fenPlus l k d l.length) = b) => fenMay_any _ _ b wr _ hints hb
        clear hown hbel hcov hown2 hints
        rcases HE.out with ⟨e1, rfl, rfl⟩ | ⟨e1, rfl, rfl⟩
        · have HMM := Lib.hid (HMM.out _ e1)
          clear e1
          go_wp2_with (go_at_call 52; refine (HMM.out).mono ?_; rintro e w1 ⟨rfl, rfl⟩)
          go_ret2
          exact ⟨_, rfl, isInts_nil _ _ _, HB.out⟩
        · have HMM := Lib.hid (HMM.out _ e1)
          clear e1
          go_wp2_with (go_at_call 52; refine (HMM.out).mono ?_; rintro e w1 ⟨rfl, rfl⟩)
          go_ret2
          exact ⟨_, rfl, HI.out, HB.out⟩
set_option maxHeartbeats 1000000 in
theorem refFenAdd_any (v : Value) (l : List Int) (i d : Int) (r : List Int) (cc : Int) (w : World) (B : Nat) (hB : B ≤ w.heap.size) (h : IsInts .i64 w B v l) (hR : FenAddR l i d r cc) :
    Calls Try.prog 25 #[v, .int .i64 i, .int .i64 d] w (GivesInts r cc w) := by
  have HM := fun b (hb : fenMayB l = b) => refFenMay_any v l b w B h hb
  rcases hR with ⟨h1, rfl, rfl⟩ | ⟨h1, h2, rfl, rfl⟩ | ⟨h1, k, rfl, hk, hd, h2⟩
  · have HM := Lib.hid (HM _ h1)
    obtain ⟨A, c, rfl, hc, hm, hn, hr, hw⟩ := h
    clear h1 hr hw
    go_enter Try.func25, Try.ntmps25
    go_wp2_with (go_at_call 53; refine (HM.out).mono ?_; rintro e w1 ⟨rfl, rfl⟩)
    go_ret2
    exact ⟨_, rfl, isInts_nil _ _ _, Below.refl _ _⟩
  · have HM := Lib.hid (HM _ h1)
    obtain ⟨A, c, rfl, hc, hm, hn, hr, hw⟩ := h
    clear h1 hr hw
    by_cases g1 : i < 0
    · have t1 : decide (i < 0) = true := by simpa using g1
      clear h2
      go_enter Try.func25, Try.ntmps25
      go_wp2_with (go_at_call 53; refine (HM.out).mono ?_; rintro e w1 ⟨rfl, rfl⟩)
      go_ret2
      exact ⟨_, rfl, isInts_nil _ _ _, Below.refl _ _⟩
    have t1 : decide (i < 0) = false := by simpa using g1
    by_cases g2 : (l.length : Int) ≤ i
    · have t2 : decide ((l.length : Int) ≤ i) = true := by simpa using g2
      clear h2
      go_enter Try.func25, Try.ntmps25
      go_wp2_with (go_at_call 53; refine (HM.out).mono ?_; rintro e w1 ⟨rfl, rfl⟩)
      go_ret2
      exact ⟨_, rfl, isInts_nil _ _ _, Below.refl _ _⟩
    have t2 : decide ((l.length : Int) ≤ i) = false := by simpa using g2
    have hd : coordOk d = false := by
      rcases h2 with a | a | a
      · exact absurd a g1
      · exact absurd a g2
      · exact a
    have hd2 := coordOk_no hd
    clear h2 hd
    by_cases g3 : d < -1048576
    · have t3 : decide (d < -1048576) = true := by simp; omega
      clear hd2
      go_enter Try.func25, Try.ntmps25
      go_wp2_with (go_at_call 53; refine (HM.out).mono ?_; rintro e w1 ⟨rfl, rfl⟩)
      go_ret2
      exact ⟨_, rfl, isInts_nil _ _ _, Below.refl _ _⟩
    · have t3 : decide (d < -1048576) = false := by simp; omega
      have g4 : 1048576 < d := by omega
      clear hd2
      go_enter Try.func25, Try.ntmps25
      go_wp2_with (go_at_call 53; refine (HM.out).mono ?_; rintro e w1 ⟨rfl, rfl⟩)
      go_ret2
      exact ⟨_, rfl, isInts_nil _ _ _, Below.refl _ _⟩
  · have HM := Lib.hid (HM _ h1)
    obtain ⟨hl, _, hok⟩ := fenMay_yes h1
    have HOk := Lib.hid hok
    have HE := Lib.hid h2
    have bd := coordOk_yes hd
    obtain ⟨A, c, rfl, hc, hm, hn, hr, hw⟩ := h
    have t1 : decide ((k : Int) < 0) = false := by simp
    have t2 : decide (l.length ≤ k) = false := by simp; omega
    have t3 : decide (d < -1048576) = false := by simp; omega
    have t4 : decide (1048576 < d) = false := by simp; omega
    clear h1 h2 hd hok hw
    go_enter Try.func25, Try.ntmps25
    go_wp2_with (go_at_call 53; refine (HM.out).mono ?_; rintro e w1 ⟨rfl, rfl⟩)
    clear t1 t2 t3 t4
    go_loopw [8, 32] (fun ov iv wr => ∃ i : Nat, i ≤ l.length ∧ iv = .int .i64 i ∧ wr.ownsRow w.heap.size 3 1 ov i ((fenPlus l k d i).map (Value.int .i64)) ∧ Below w.heap.size w wr) (fun _ iv _ => l.length - (intOf iv).toNat)
    case atStart => exact ⟨0, by omega, rfl, by rw [fenPlus_0]; exact World.ownsRow_nil _ _ _ _, Below.refl _ _⟩
    case round =>
      obtain ⟨i, hi, rfl, hown, hbel⟩ := hrel
      obtain ⟨wo, rfl⟩ : ∃ wo : World, wo = wr := ⟨_, rfl⟩
      have hz := hbel.size
      have HO := Lib.hid hown
      have HB := Lib.hid hbel
      by_cases hlt : i < l.length
      · obtain ⟨bk, off, rfl, hbk, hcells⟩ := ints_cells hr (by omega)
        have c0 := (hbel.cell (p := ⟨bk, off + i, none⟩) (by simp; omega)).trans (hcells i hlt)
        obtain ⟨A2, cap2, rfl⟩ := own_shape hown
        have hS := fenPlus_succ l k d i
        obtain ⟨x0, x1⟩ := HOk.out i
        generalize l.getD i 0 = x at *
        clear hcells hown hbel
        have HF := Lib.hid fun W => fenFrom_any i W (by omega)
        cases hcv : covers i k with
        | true =>
          obtain ⟨g1, g2⟩ := covers_yes.1 hcv
          rw [hcv, if_pos rfl] at hS
          have HS := Lib.hid hS
          have t1 : decide (fenLo i ≤ k) = true := by simpa using g1
          have t2 : decide (k ≤ i) = true := by simpa using g2
          generalize fenLo i = m at *
          clear hS hcv
          go_wp2_with (first
            | (go_at_call 51; refine (HF.out _).mono ?_; rintro e w1 ⟨rfl, rfl⟩)
            | (at_builtin; refine wpList_pushD el_int' rfl (.tmp 49) (.tmp 51) rfl w.heap.size _ i _ (HO.out.alloc _) rfl wo.heap.size 1 _ rfl (by simp; rfl) rfl (by omega) (by omega) (by simp; omega) ?_; intro v' w2 hown2 hg2 hl2))
          go_roundw
          case rel => exact ⟨i + 1, by omega, by go_num, by rw [HS.out, List.map_append]; exact hown2, below_push (HB.out.alloc hz _) (HO.out.alloc _) (Nat.le_refl _) (by simp; omega) hg2⟩
          case measure => simp [intOf]; omega
        | false =>
          have hno : ¬ (fenLo i ≤ k ∧ k ≤ i) := fun h => by rw [covers_yes.2 h] at hcv; cases hcv
          rw [hcv, if_neg (by simp), Int.add_zero] at hS
          have HS := Lib.hid hS
          clear hS hcv
          by_cases g1 : fenLo i ≤ k
          · have t1 : decide (fenLo i ≤ k) = true := by simpa using g1
            have t2 : decide (k ≤ i) = false := by simp; omega
            generalize fenLo i = m at *
            clear hno
            go_wp2_with (first
              | (go_at_call 51; refine (HF.out _).mono ?_; rintro e w1 ⟨rfl, rfl⟩)
              | (at_builtin; refine wpList_pushD el_int' rfl (.tmp 49) (.tmp 51) rfl w.heap.size _ i _ (HO.out.alloc _) rfl wo.heap.size 1 _ rfl (by simp; rfl) rfl (by omega) (by omega) (by simp; omega) ?_; intro v' w2 hown2 hg2 hl2))
            go_roundw
            case rel => exact ⟨i + 1, by omega, by go_num, by rw [HS.out, List.map_append]; exact hown2, below_push (HB.out.alloc hz _) (HO.out.alloc _) (Nat.le_refl _) (by simp; omega) hg2⟩
            case measure => simp [intOf]; omega
          · have t1 : decide (fenLo i ≤ k) = false := by simpa using g1
            generalize fenLo i = m at *
            clear hno
            go_wp2_with (first
              | (go_at_call 51; refine (HF.out _).mono ?_; rintro e w1 ⟨rfl, rfl⟩)
              | (at_builtin; refine wpList_pushD el_int' rfl (.tmp 49) (.tmp 51) rfl w.heap.size _ i _ (HO.out.alloc _) rfl wo.heap.size 1 _ rfl (by simp; rfl) rfl (by omega) (by omega) (by simp; omega) ?_; intro v' w2 hown2 hg2 hl2))
            go_roundw
            case rel => exact ⟨i + 1, by omega, by go_num, by rw [HS.out, List.map_append]; exact hown2, below_push (HB.out.alloc hz _) (HO.out.alloc _) (Nat.le_refl _) (by simp; omega) hg2⟩
            case measure => simp [intOf]; omega
      · obtain rfl : i = l.length := by omega
        have hints := own_ints hown (by rw [fenPlus_length]; omega) (fenPlus_wf HOk.out bd)
        have HI := Lib.hid hints
        have HMM := Lib.hid fun b (hb : fenMayB (fenPlus l k d l.length) = b) => refFenMay_any _ _ b wo _ hints hb
        obtain ⟨A2, cap2, rfl⟩ := own_shape hown
        clear hown hbel hints
        rcases HE.out with ⟨e1, rfl, rfl⟩ | ⟨e1, rfl, rfl⟩
        · have HMM := Lib.hid (HMM.out _ e1)
          clear e1
          go_wp2_with (go_at_call 53; refine (HMM.out).mono ?_; rintro e w1 ⟨rfl, rfl⟩)
          go_ret2
          exact ⟨_, rfl, isInts_nil _ _ _, HB.out⟩
        · have HMM := Lib.hid (HMM.out _ e1)
          clear e1
          go_wp2_with (go_at_call 53; refine (HMM.out).mono ?_; rintro e w1 ⟨rfl, rfl⟩)
          go_ret2
          exact ⟨_, rfl, HI.out, HB.out⟩
set_option maxHeartbeats 400000 in
theorem fenAdds_walk (v u1 u2 : Value) (w : World) (h : ∃ l, IsInts .i64 w w.heap.size v l) (h1 : ∃ x : Int, u1 = .int .i64 x ∧ I64 x) (h2 : ∃ x : Int, u2 = .int .i64 x ∧ I64 x) :
    Calls Try.prog 7 #[v, u1, u2] w fun e w' => e = .returned (.bool true) ∧ Below w.heap.size w w' := by
  obtain ⟨l, h⟩ := h
  obtain ⟨x, rfl, hx⟩ := h1
  obtain ⟨y, rfl, hy⟩ := h2
  obtain ⟨r, cc, hR⟩ := FenAddR.ex l x y
  have H1 := Lib.hid (fenAdd_any v l x y r cc w _ (Nat.le_refl _) h hR)
  have H2 := Lib.hid fun W (hb : Below w.heap.size w W) => refFenAdd_any v l x y r cc W _ hb.size (h.below hb) hR
  obtain ⟨A, c, rfl, hc, hm, hn, hr, hw⟩ := h
  clear hr hw hR
  go_enter Try.func7, Try.ntmps7
  go_wp2_with (first
    | (go_at_call 24; refine (H1.out).mono ?_; rintro e w1 ⟨v1, rfl, hi1, hb1⟩)
    | (go_at_call 25; refine (H2.out _ hb1).mono ?_; rintro e w2 ⟨v2, rfl, hi2, hb2⟩)
    | (go_at_call 17; refine (sameInts_any v1 v2 r _ _ ((hi1.below hb2).more hb2.size) hi2).mono ?_; rintro e w3 ⟨rfl, hd⟩))
  go_ret
  exact ⟨ret_bool (by simp), (hb1.trans (hb2.mono hb1.size)).trans (hd.below _)⟩
end Go.Proofs.Ytiflelifkjfpdaa
