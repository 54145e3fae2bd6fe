/-
  Contract of container/heap's down at grid's heap of places. Conditions: the heap lies in memory, its places are places of points.
-/
import Derived.Test.YthiccmncdmohbaaGreatMGridTops42
set_option linter.unusedVariables false
set_option linter.unusedSimpArgs false
namespace Go.Dam
open Go Go.RowKit
set_option linter.unusedVariables false
/-- The list's elements are places of np points. -/
def Pls (np m : Nat) (L : List Int) : Prop := L.length = m ∧ ∀ k, k < m → ∃ p : Nat, p < np ∧ L.getD k 0 = (p : Int)
theorem Pls.sw {np m i j : Nat} {L : List Int} (h : Pls np m L) (hi : i < m) (hj : j < m) : Pls np m (Heap.sw L i j) := by
  refine ⟨by rw [Heap.sw_len]; exact h.1, fun k hk => ?_⟩
  have e : (Heap.sw L i j).getD k 0 = if k = j then L.getD i 0 else if k = i then L.getD j 0 else L.getD k 0 := Heap.at_sw (by rw [h.1]; exact hi) (by rw [h.1]; exact hj) k
  rw [e]
  split
  · exact h.2 i hi
  · split
    · exact h.2 j hj
    · exact h.2 k hk
theorem Pls.perm {np m : Nat} {L L' : List Int} (h : Pls np m L) (hp : L'.Perm L) : Pls np m L' := by
  refine ⟨by rw [hp.length_eq]; exact h.1, fun k hk => ?_⟩
  have hk' : k < L'.length := by rw [hp.length_eq, h.1]; exact hk
  have e : L'.getD k 0 = L'[k] := by rw [List.getD_eq_getElem?_getD, List.getElem?_eq_getElem hk']; rfl
  obtain ⟨u, hu, e2⟩ := List.getElem_of_mem (hp.mem_iff.1 (List.getElem_mem hk'))
  obtain ⟨p, h1, h2⟩ := h.2 u (by rw [← h.1]; exact hu)
  refine ⟨p, h1, ?_⟩
  rw [e, ← e2, ← h2, List.getD_eq_getElem?_getD, List.getElem?_eq_getElem hu]; rfl
theorem less_ltH (l : List Int) (p q : Nat) : decide (or2 (Lib.compareInt (l.getD (q * 3 + 2) 0) (l.getD (p * 3 + 2) 0)) (Lib.compareInt (p : Int) (q : Int)) < 0) = ltH l (p : Int) (q : Int) := by
  have e : ltH l (p : Int) (q : Int) = decide (l.getD (q * 3 + 2) 0 < l.getD (p * 3 + 2) 0 ∨ (l.getD (q * 3 + 2) 0 = l.getD (p * 3 + 2) 0 ∧ (p : Int) < (q : Int))) := by
    cases hx : ltH l (p : Int) (q : Int)
    · rw [ltH_f] at hx; exact (decide_eq_false hx).symm
    · rw [ltH_t] at hx; exact (decide_eq_true hx).symm
  rw [e, decide_eq_decide]
  generalize l.getD (q * 3 + 2) 0 = a
  generalize l.getD (p * 3 + 2) 0 = b
  unfold or2 Lib.compareInt
  split <;> split <;> (try split) <;> omega
theorem HeapAt.below {w w' : World} {base tH tI hb : Nat} {A : Option Addr} {m c : Nat} {pv : Value} {L : List Int} (h : HeapAt w base tH tI hb A m c pv L) (hb' : Below w.heap.size w w') : HeapAt w' base tH tI hb A m c pv L :=
  ⟨h.box.below hb' h.box.lt, own_size h.own hb'⟩
theorem grown_below {w w' : World} {r : Option Nat} (hb : Below w.heap.size w w') : w.grownBy w' r := ⟨hb.os, hb.tape, hb.output, hb.size, fun i hi _ => hb.block i hi⟩
end Go.Dam
namespace Go.Proofs.YthiccmncdmohbaaGreat
open Go Go.RowKit Go.Dam Go.Shelf Go.Dam.Stable
set_option linter.unusedVariables false
section
variable (base hb g m c np cp bk off : Nat) (l L : List Int) (w : World)
theorem heapLessL_any (i j : Nat) (hm : m ≤ 1000) (hnp : np ≤ 1000) (hi : i < m) (hj : j < m) (h : HeapAt w base 34 3 hb (some ⟨g, 0, none⟩) m c (.slice (some ⟨bk, off, none⟩) np cp) L) (hP : Pls np m L)
    (hcs : ∀ q, q < np * 3 → w.cell? ⟨bk, off + q, none⟩ = some (.int .i64 (l.getD q 0))) :
    Calls Tryz.prog 114 #[.pointer (some ⟨hb, 0, none⟩), .int .i64 i, .int .i64 j] w fun e w' => e = .returned (.bool (ltH l (Heap.at_ L i) (Heap.at_ L j))) ∧ Below w.heap.size w w' := by
  obtain ⟨p, hp, ep⟩ := hP.2 i hi
  obtain ⟨q, hq, eq⟩ := hP.2 j hj
  have o0 := own_atI h.own hP.1 hi
  have o1 := own_atI h.own hP.1 hj
  rw [ep] at o0
  rw [eq] at o1
  have := heapLess_any hb g m c np cp bk off i j p q (l.getD (p * 3 + 2) 0) (l.getD (q * 3 + 2) 0) w hm hnp hi hj hp hq (h.box.cell 0) (h.box.cell 1) o0 o1 (hcs (p * 3 + 2) (by omega)) (hcs (q * 3 + 2) (by omega))
  rw [less_ltH] at this
  have e1 : Heap.at_ L i = (p : Int) := ep
  have e2 : Heap.at_ L j = (q : Int) := eq
  rw [e1, e2]
  exact this
theorem method_less (a : Addr) (w : World) : (method 253 32 (.pointer (some a)) "Less").run Tryz.prog w = .ok (114, .pointer (some a)) w := by kernel_rfl
theorem method_swap (a : Addr) (w : World) : (method 253 32 (.pointer (some a)) "Swap").run Tryz.prog w = .ok (116, .pointer (some a)) w := by kernel_rfl
theorem method_len (a : Addr) (w : World) : (method 253 32 (.pointer (some a)) "Len").run Tryz.prog w = .ok (9, .pointer (some a)) w := by kernel_rfl
theorem method_pop (a : Addr) (w : World) : (method 253 32 (.pointer (some a)) "Pop").run Tryz.prog w = .ok (115, .pointer (some a)) w := by kernel_rfl
set_option maxRecDepth 100000 in
set_option maxHeartbeats 8000000 in
theorem heapDown_any (i0 n : Nat) (hm : m ≤ 1000) (hnp : np ≤ 1000) (hn : n ≤ m) (hi0 : i0 ≤ 1000) (h : HeapAt w base 34 3 hb (some ⟨g, 0, none⟩) m c (.slice (some ⟨bk, off, none⟩) np cp) L) (hP : Pls np m L)
    (hbk : bk < base) (hbs : base ≤ w.heap.size) (hcs : ∀ q, q < np * 3 → w.cell? ⟨bk, off + q, none⟩ = some (.int .i64 (l.getD q 0))) :
    Calls Tryz.prog 17 #[.iface 32 (.pointer (some ⟨hb, 0, none⟩)), .int .i64 i0, .int .i64 n] w fun e w' => (∃ b, e = .returned (.bool b)) ∧ HeapAt w' base 34 3 hb (some ⟨g, 0, none⟩) m c (.slice (some ⟨bk, off, none⟩) np cp) (Heap.downF (ltH l) n n L i0) ∧ w.grownBy w' (some g) := by
  have HCs := Lib.hid hcs
  have H0 := Lib.hid h
  have HP0 := Lib.hid hP
  obtain ⟨R, hR⟩ : ∃ R, R = Heap.downF (ltH l) n n L i0 := ⟨_, rfl⟩
  have HR := Lib.hid hR
  have hg : base ≤ g := by
    rcases h.own.2 with ⟨hx, _⟩ | ⟨g1, cap1, cur, hv, hb, _⟩
    · cases hx
    · injection hv with hv; injection hv with hv; injection hv with hv; omega
  rw [← hR]
  clear hcs h hP hR
  go_enter Tryz.func17, Tryz.ntmps17
  go_wp2_with fail
  go_loopw [7, 8, 9, 10] (fun iv _ _ _ wr => ∃ (f i : Nat) (L' : List Int), iv = .int .i64 i ∧ i ≤ 1000 ∧ n ≤ f + i ∧ Hid (Heap.downF (ltH l) n f L' i = R) ∧ Hid (Pls np m L') ∧ Hid (HeapAt wr base 34 3 hb (some ⟨g, 0, none⟩) m c (.slice (some ⟨bk, off, none⟩) np cp) L') ∧ Hid (w.grownBy wr (some g))) (fun iv _ _ _ _ => n - (intOf iv).toNat)
  case atStart => exact ⟨n, i0, L, rfl, hi0, by omega, Lib.hid HR.out.symm, HP0, H0, Lib.hid (World.grownBy.refl _ _)⟩
  case round =>
    obtain ⟨f, i, L', rfl, hi, hf, HD, HP, H, HG⟩ := hrel
    obtain ⟨wo, rfl⟩ : ∃ wo : World, wo = wr := ⟨_, rfl⟩
    obtain ⟨d, hd⟩ : ∃ d, d = 2 * i := ⟨_, rfl⟩
    obtain ⟨j1, hj1⟩ : ∃ d, d = 2 * i + 1 := ⟨_, rfl⟩
    obtain ⟨j2, hj2⟩ : ∃ d, d = 2 * i + 2 := ⟨_, rfl⟩
    have w1 : IntKind.i64.wrap (2 * (i : Int)) = (d : Int) := by rw [IntKind.wrap_i64]; omega
    have w2 : IntKind.i64.wrap ((d : Int) + 1) = (j1 : Int) := by rw [IntKind.wrap_i64]; omega
    have w3 : IntKind.i64.wrap ((j1 : Int) + 1) = (j2 : Int) := by rw [IntKind.wrap_i64]; omega
    have hbj : j1 ≤ 2001 ∧ j2 ≤ 2002 := by omega
    have HJ := Lib.hid (And.intro hj1 hj2)
    have HW : ∀ W, HeapAt W base 34 3 hb (some ⟨g, 0, none⟩) m c (.slice (some ⟨bk, off, none⟩) np cp) L' → w.grownBy W (some g) → ∀ a b, a < m → b < m → Calls Tryz.prog 114 #[.pointer (some ⟨hb, 0, none⟩), .int .i64 a, .int .i64 b] W fun e w' => e = .returned (.bool (ltH l (Heap.at_ L' a) (Heap.at_ L' b))) ∧ Below W.heap.size W w' := fun W hH hG a b ha hb' =>
      heapLessL_any base hb g m c np cp bk off l L' W a b hm hnp ha hb' hH HP.out fun q hq => (hG.cell_far ⟨bk, off + q, none⟩ (by show bk < _; omega) (by intro e; injection e with e; simp at e; omega)).trans (HCs.out q hq)
    have HL := Lib.hid HW
    have HLen := Lib.hid HP.out.1
    have hml := method_less
    have hms := method_swap
    clear hd hj1 hj2 HW
    by_cases h1 : j1 < n
    · have t1 : decide ((n : Int) ≤ (j1 : Int)) = false := decide_eq_false (by omega)
      have t2 : decide ((j1 : Int) < 0) = false := decide_eq_false (by omega)
      have HT : ∀ jv, jv < n → Heap.kid (ltH l) n L' i = jv → ∀ v, v = ltH l (Heap.at_ L' jv) (Heap.at_ L' i) → (v = false → L' = R) ∧ (v = true → ∃ f', n ≤ f' + jv ∧ Heap.downF (ltH l) n f' (Heap.sw L' i jv) jv = R) := fun jv hj hk v hv => by
        have h3 := HJ.out.1
        have hkb := Heap.kid_b (ltH l) (L := L') (show 2 * i + 1 < n by omega)
        rw [hk] at hkb
        constructor
        · intro e
          rw [← HD.out, Heap.downF_halt]
          rw [hk, ← hv, e]
        · intro e
          obtain ⟨f', rfl⟩ : ∃ f', f = f' + 1 := ⟨f - 1, by omega⟩
          refine ⟨f', by omega, ?_⟩
          rw [← HD.out, Heap.downF_go (ltH l) (by omega) (by rw [hk, ← hv, e]), hk]
      have HTh := Lib.hid HT
      have hkj : ∀ jv, Heap.kid (ltH l) n L' i = jv → i < jv := fun jv hk => by
        have hkb := Heap.kid_b (ltH l) (L := L') (show 2 * i + 1 < n by have := HJ.out.1; omega)
        rw [hk] at hkb; omega
      have HKj := Lib.hid hkj
      clear HT hkj
      have him : i < m := by have := HJ.out.1; omega
      by_cases h2 : j2 < n
      · have t3 : decide ((j2 : Int) < (n : Int)) = true := decide_eq_true (by omega)
        obtain ⟨b, hb1⟩ : ∃ b, b = ltH l (Heap.at_ L' j2) (Heap.at_ L' j1) := ⟨_, rfl⟩
        have HL1 := Lib.hid (HL.out wo H.out HG.out j2 j1 (by omega) (by omega))
        rw [← hb1] at HL1
        cases b with
        | true =>
          have HK : Hid (Heap.kid (ltH l) n L' i = j2) := Lib.hid (by have := HJ.out; unfold Heap.kid; rw [← this.1, ← this.2, if_pos ⟨h2, hb1.symm⟩])
          clear hb1
          obtain ⟨v, hv⟩ : ∃ v, v = ltH l (Heap.at_ L' j2) (Heap.at_ L' i) := ⟨_, rfl⟩
          have HTv := Lib.hid (HTh.out j2 (by omega) HK.out v hv)
          have hij := HKj.out j2 HK.out
          have HL2 := Lib.hid fun W hH hG => HL.out W hH hG j2 i (by omega) him
          rw [← hv] at HL2
          clear hv
          cases v with
          | true =>
            have hjm : j2 < m := by omega
            obtain ⟨f', hf', hd'⟩ := HTv.out.2 rfl
            have HD' := Lib.hid hd'
            clear hd'
            go_wp2_with (first | (go_at_call 114; (with_reducible refine (HL1.out).mono ?_); rintro e w1 ⟨rfl, hb1⟩; have HB1 := Lib.hid (H.out.below hb1); have HG1 := Lib.hid (HG.out.trans (grown_below (r := some g) hb1)); clear hb1) | (go_at_call 114; (with_reducible refine (HL2.out _ HB1.out HG1.out).mono ?_); rintro e w2 ⟨rfl, hb2⟩; have HB2 := Lib.hid (HB1.out.below hb2); have HG2 := Lib.hid (HG1.out.trans (grown_below (r := some g) hb2)); clear hb2) | (go_at_call 116; (with_reducible refine (heapSwap_any base hb g m c i j2 _ L' w2 hm him hjm HLen.out HB2.out).mono ?_); rintro e w3 ⟨rfl, hB3, hg3⟩))
            go_roundw
            case rel => exact ⟨f', j2, _, rfl, by omega, hf', HD', Lib.hid (HP.out.sw him (by omega)), Lib.hid hB3, Lib.hid (HG2.out.trans hg3)⟩
            case measure => simp [intOf]; omega
          | false =>
            have HE := Lib.hid (HTv.out.1 rfl)
            go_wp2_with (first | (go_at_call 114; (with_reducible refine (HL1.out).mono ?_); rintro e w1 ⟨rfl, hb1⟩; have HB1 := Lib.hid (H.out.below hb1); have HG1 := Lib.hid (HG.out.trans (grown_below (r := some g) hb1)); clear hb1) | (go_at_call 114; (with_reducible refine (HL2.out _ HB1.out HG1.out).mono ?_); rintro e w2 ⟨rfl, hb2⟩; have HB2 := Lib.hid (HB1.out.below hb2); have HG2 := Lib.hid (HG1.out.trans (grown_below (r := some g) hb2)); clear hb2))
            go_ret
            exact ⟨⟨_, rfl⟩, by rw [← HE.out]; exact HB2.out, HG2.out⟩
        | false =>
          have HK : Hid (Heap.kid (ltH l) n L' i = j1) := Lib.hid (by have := HJ.out; unfold Heap.kid; rw [← this.1, ← this.2, if_neg (by rw [← hb1]; simp)])
          clear hb1
          obtain ⟨v, hv⟩ : ∃ v, v = ltH l (Heap.at_ L' j1) (Heap.at_ L' i) := ⟨_, rfl⟩
          have HTv := Lib.hid (HTh.out j1 (by omega) HK.out v hv)
          have hij := HKj.out j1 HK.out
          have HL2 := Lib.hid fun W hH hG => HL.out W hH hG j1 i (by omega) him
          rw [← hv] at HL2
          clear hv
          cases v with
          | true =>
            have hjm : j1 < m := by omega
            obtain ⟨f', hf', hd'⟩ := HTv.out.2 rfl
            have HD' := Lib.hid hd'
            clear hd'
            go_wp2_with (first | (go_at_call 114; (with_reducible refine (HL1.out).mono ?_); rintro e w1 ⟨rfl, hb1⟩; have HB1 := Lib.hid (H.out.below hb1); have HG1 := Lib.hid (HG.out.trans (grown_below (r := some g) hb1)); clear hb1) | (go_at_call 114; (with_reducible refine (HL2.out _ HB1.out HG1.out).mono ?_); rintro e w2 ⟨rfl, hb2⟩; have HB2 := Lib.hid (HB1.out.below hb2); have HG2 := Lib.hid (HG1.out.trans (grown_below (r := some g) hb2)); clear hb2) | (go_at_call 116; (with_reducible refine (heapSwap_any base hb g m c i j1 _ L' w2 hm him hjm HLen.out HB2.out).mono ?_); rintro e w3 ⟨rfl, hB3, hg3⟩))
            go_roundw
            case rel => exact ⟨f', j1, _, rfl, by omega, hf', HD', Lib.hid (HP.out.sw him (by omega)), Lib.hid hB3, Lib.hid (HG2.out.trans hg3)⟩
            case measure => simp [intOf]; omega
          | false =>
            have HE := Lib.hid (HTv.out.1 rfl)
            go_wp2_with (first | (go_at_call 114; (with_reducible refine (HL1.out).mono ?_); rintro e w1 ⟨rfl, hb1⟩; have HB1 := Lib.hid (H.out.below hb1); have HG1 := Lib.hid (HG.out.trans (grown_below (r := some g) hb1)); clear hb1) | (go_at_call 114; (with_reducible refine (HL2.out _ HB1.out HG1.out).mono ?_); rintro e w2 ⟨rfl, hb2⟩; have HB2 := Lib.hid (HB1.out.below hb2); have HG2 := Lib.hid (HG1.out.trans (grown_below (r := some g) hb2)); clear hb2))
            go_ret
            exact ⟨⟨_, rfl⟩, by rw [← HE.out]; exact HB2.out, HG2.out⟩
      · have t3 : decide ((j2 : Int) < (n : Int)) = false := decide_eq_false (by omega)
        have HK : Hid (Heap.kid (ltH l) n L' i = j1) := Lib.hid (by have := HJ.out; unfold Heap.kid; rw [← this.1, ← this.2, if_neg (by omega)])
        obtain ⟨v, hv⟩ : ∃ v, v = ltH l (Heap.at_ L' j1) (Heap.at_ L' i) := ⟨_, rfl⟩
        have HTv := Lib.hid (HTh.out j1 (by omega) HK.out v hv)
        have hij := HKj.out j1 HK.out
        have HL2 := Lib.hid fun W hH hG => HL.out W hH hG j1 i (by omega) him
        rw [← hv] at HL2
        clear hv
        cases v with
        | true =>
          have hjm : j1 < m := by omega
          obtain ⟨f', hf', hd'⟩ := HTv.out.2 rfl
          have HD' := Lib.hid hd'
          clear hd'
          go_wp2_with (first | (go_at_call 114; (with_reducible refine (HL2.out _ H.out HG.out).mono ?_); rintro e w2 ⟨rfl, hb2⟩; have HB2 := Lib.hid (H.out.below hb2); have HG2 := Lib.hid (HG.out.trans (grown_below (r := some g) hb2)); clear hb2) | (go_at_call 116; (with_reducible refine (heapSwap_any base hb g m c i j1 _ L' w2 hm him hjm HLen.out HB2.out).mono ?_); rintro e w3 ⟨rfl, hB3, hg3⟩))
          go_roundw
          case rel => exact ⟨f', j1, _, rfl, by omega, hf', HD', Lib.hid (HP.out.sw him (by omega)), Lib.hid hB3, Lib.hid (HG2.out.trans hg3)⟩
          case measure => simp [intOf]; omega
        | false =>
          have HE := Lib.hid (HTv.out.1 rfl)
          go_wp2_with (first | (go_at_call 114; (with_reducible refine (HL2.out _ H.out HG.out).mono ?_); rintro e w2 ⟨rfl, hb2⟩; have HB2 := Lib.hid (H.out.below hb2); have HG2 := Lib.hid (HG.out.trans (grown_below (r := some g) hb2)); clear hb2))
          go_ret
          exact ⟨⟨_, rfl⟩, by rw [← HE.out]; exact HB2.out, HG2.out⟩
    · have t1 : decide ((n : Int) ≤ (j1 : Int)) = true := decide_eq_true (by omega)
      have HE : Hid (L' = R) := Lib.hid (by have := HJ.out.1; rw [← HD.out, Heap.downF_stop]; omega)
      go_wp2_with fail
      go_ret
      exact ⟨⟨_, rfl⟩, by rw [← HE.out]; exact H.out, HG.out⟩
end
end Go.Proofs.YthiccmncdmohbaaGreat
