/-
  Contract of morton.cover: squares of squares. Conditions: the rectangle lies in the first 256 places; the spans so far are the call's own.
-/
import Derived.Test.YtdmfhpigchbcbaaMTopCover08
import Derived.Test.YtdmfhpigchbcbaaMTopCover50
import Derived.Test.YtdmfhpigchbcbaaMTopCover45
import Derived.Test.YtdmfhpigchbcbaaMTopCover06
import Derived.Deep.CutRange
namespace Go.Dam
open Go Go.RowKit
set_option linter.unusedVariables false
/-- Spans are returned in a row that grew. -/
def GivesCover (E : TypeId) (base : Nat) (w : World) (v : Value) (L : List (Nat × Nat)) (e : Ending) (w' : World) : Prop :=
  ∃ v', e = .returned v' ∧ w'.ownsRow base E 2 v' L.length ((flatR L).map (Value.int .i64)) ∧ Grew w w' v v'
theorem pow_le_8 {k : Nat} (h : k ≤ 8) : 2 ^ k ≤ 256 ∧ 4 ^ k ≤ 65536 := by
  have a : 2 ^ k ≤ 2 ^ 8 := Nat.pow_le_pow_right (by omega) h
  have b : 4 ^ k ≤ 4 ^ 8 := Nat.pow_le_pow_right (by omega) h
  have c : (2 : Nat) ^ 8 = 256 := by decide
  have d : (4 : Nat) ^ 8 = 65536 := by decide
  omega
theorem sq_le {k q : Nat} (hk : k ≤ 8) : 2 ^ k * dxK (8 - k) q + 2 ^ k ≤ 256 ∧ 2 ^ k * dyK (8 - k) q + 2 ^ k ≤ 256 := by
  have a := dxK_lt (8 - k) q
  have b := dyK_lt (8 - k) q
  have e : 2 ^ k * 2 ^ (8 - k) = 256 := by rw [← Nat.pow_add, show k + (8 - k) = 8 from by omega]
  have h1 : 2 ^ k * (dxK (8 - k) q + 1) ≤ 2 ^ k * 2 ^ (8 - k) := Nat.mul_le_mul_left _ a
  have h2 : 2 ^ k * (dyK (8 - k) q + 1) ≤ 2 ^ k * 2 ^ (8 - k) := Nat.mul_le_mul_left _ b
  rw [e, Nat.mul_add, Nat.mul_one] at h1 h2
  exact ⟨h1, h2⟩
end Go.Dam
namespace Go.Proofs.Ytdmfhpigchbcbaa
open Go Go.RowKit Go.Dam
set_option linter.unusedVariables false
theorem el_span : El Try.prog 53 62 (.agg #[.int .i64 0, .int .i64 0]) 2 16 := ⟨Try.underlying53, by kernel_rfl, rfl, by decide⟩
theorem span_news {w : World} {g : Nat} {a b : Value} {t : TypeId} (hg : g = w.heap.size) : ∀ j u, [a, b][j]? = some u → (w.alloc (.cells #[a, b] t)).cell? ((⟨g, 0, none⟩ : Addr).add j) = some u := by
  subst hg
  intro j u hj
  rw [add_zero_addr]
  match j with
  | 0 => simp at hj; subst hj; simp
  | 1 => simp at hj; subst hj; simp
  | j + 2 => simp at hj
theorem span_ones {a b : Int} : ∀ u ∈ [Value.int .i64 a, Value.int .i64 b], u.oneCell' = true := by
  intro u hu
  simp at hu
  rcases hu with rfl | rfl <;> rfl
set_option maxRecDepth 100000 in
set_option maxHeartbeats 16000000 in
theorem cover_any (x0 y0 x1 y1 : Int) (base : Nat) : ∀ (k q : Nat) (w : World) (v : Value), k ≤ 8 → 4 ^ k * q + 4 ^ k ≤ 65536 → base ≤ w.heap.size →
    w.ownsRow base 62 2 v (runsK (inC x0 y0 x1 y1) (4 ^ k * q)).length ((flatR (runsK (inC x0 y0 x1 y1) (4 ^ k * q))).map (Value.int .i64)) →
    Calls Try.prog 33 #[.agg #[.int .i64 x0, .int .i64 y0, .int .i64 x1, .int .i64 y1], .int .i64 (2 ^ k * dxK (8 - k) q : Nat), .int .i64 (2 ^ k * dyK (8 - k) q : Nat), .int .i64 (2 ^ k : Nat), v] w (GivesCover 62 base w v (runsK (inC x0 y0 x1 y1) (4 ^ k * q + 4 ^ k))) := by
  intro k
  induction k using Nat.strongRecOn with
  | _ k ih =>
  intro q w v hk hq hbase hown
  have hsz := sq_le (q := q) hk
  have hpw := pow_le_8 hk
  have hp2 : 0 < 2 ^ k := Nat.two_pow_pos k
  have HNone := Lib.hid (sq_none (x0 := x0) (y0 := y0) (x1 := x1) (y1 := y1) (k := k) (q := q) hk)
  have HAll := Lib.hid (sq_all (x0 := x0) (y0 := y0) (x1 := x1) (y1 := y1) (k := k) (q := q) hk)
  have hp4 : 0 < 4 ^ k := by rw [four_pow]; exact Nat.two_pow_pos _
  have HCode := Lib.hid (sq_code (k := k) (q := q) hk (by omega))
  have HWW : Hid (2 ^ k * 2 ^ k = 4 ^ k) := Lib.hid (by rw [four_pow, Nat.two_mul, Nat.pow_add])
  have HIh := Lib.hid ih
  have HQ : Hid (∀ j i, k = j + 1 → i < 4 → 2 ^ j * dxK (8 - j) (4 * q + i) = 2 ^ k * dxK (8 - k) q + 2 ^ j * (i % 2) ∧ 2 ^ j * dyK (8 - j) (4 * q + i) = 2 ^ k * dyK (8 - k) q + 2 ^ j * (i / 2)) := Lib.hid fun j i e hi => by
    subst e
    have e1 : 8 - j = (8 - (j + 1)) + 1 := by omega
    rw [e1, dxK_quad _ _ _ hi, dyK_quad _ _ _ hi, Nat.pow_succ, Nat.mul_add, Nat.mul_add, Nat.mul_assoc, Nat.mul_assoc]
    exact ⟨rfl, rfl⟩
  have HF : Hid (∀ j i, k = j + 1 → 4 ^ j * (4 * q + i) + 4 ^ j = 4 ^ j * (4 * q + (i + 1))) := Lib.hid fun j i _ => by rw [Nat.mul_add, Nat.mul_add, Nat.mul_add]; omega
  have HF0 : Hid (∀ j, k = j + 1 → 4 ^ j * (4 * q + 0) = 4 ^ k * q ∧ 4 ^ j * (4 * q + 4) = 4 ^ k * q + 4 ^ k ∧ 2 ^ k = 2 * 2 ^ j) := Lib.hid fun j e => by
    subst e
    rw [Nat.pow_succ, Nat.add_zero, Nat.mul_add, Nat.pow_succ 2 j, ← Nat.mul_assoc]
    refine ⟨rfl, rfl, by omega⟩
  clear ih
  obtain ⟨X, hX⟩ : ∃ X, 2 ^ k * dxK (8 - k) q = X := ⟨_, rfl⟩
  obtain ⟨Y, hY⟩ : ∃ Y, 2 ^ k * dyK (8 - k) q = Y := ⟨_, rfl⟩
  obtain ⟨W, hW⟩ : ∃ W, 2 ^ k = W := ⟨_, rfl⟩
  obtain ⟨F, hF⟩ : ∃ F, 4 ^ k = F := ⟨_, rfl⟩
  obtain ⟨C, hC⟩ : ∃ C, 4 ^ k * q = C := ⟨_, rfl⟩
  rw [hC] at hq hown HNone HAll HCode HF0 ⊢
  rw [hF] at hq hpw HNone HAll HWW hp4 HF0 ⊢
  rw [hX, hY] at hsz HNone HAll HCode HQ ⊢
  rw [hW] at hsz hpw hp2 HNone HAll HWW HF0 ⊢
  have HX := Lib.hid (And.intro hX (And.intro hY (And.intro hW (And.intro hF hC))))
  clear hX hY hW hF hC
  obtain ⟨A, c, rfl⟩ := own_shape hown
  have HOw := Lib.hid hown
  have hne := ne_own hown (Nat.le_refl _)
  have HNe := Lib.hid hne
  have HBx := Lib.hid (Blk.new w 51 #[.int .i64 x0, .int .i64 y0, .int .i64 x1, .int .i64 y1])
  clear hown hne
  by_cases n1 : x1 < (X : Int)
  · have t1 : decide (x1 < (X : Int)) = true := decide_eq_true n1
    go_enter Try.func33, Try.ntmps33
    go_wp2_with fail
    go_ret
    exact ⟨_, rfl, by rw [HNone.out (.inl n1)]; exact HOw.out.alloc _, (Grew.refl w _).alloc _⟩
  have t1 : decide (x1 < (X : Int)) = false := decide_eq_false n1
  by_cases n2 : y1 < (Y : Int)
  · have t2 : decide (y1 < (Y : Int)) = true := decide_eq_true n2
    go_enter Try.func33, Try.ntmps33
    go_wp2_with fail
    go_ret
    exact ⟨_, rfl, by rw [HNone.out (.inr (.inl n2))]; exact HOw.out.alloc _, (Grew.refl w _).alloc _⟩
  have t2 : decide (y1 < (Y : Int)) = false := decide_eq_false n2
  by_cases n3 : (X : Int) + (W : Int) ≤ x0
  · have t3 : decide ((X : Int) + (W : Int) ≤ x0) = true := decide_eq_true n3
    go_enter Try.func33, Try.ntmps33
    go_wp2_with fail
    go_ret
    exact ⟨_, rfl, by rw [HNone.out (.inr (.inr (.inl (by omega))))]; exact HOw.out.alloc _, (Grew.refl w _).alloc _⟩
  have t3 : decide ((X : Int) + (W : Int) ≤ x0) = false := decide_eq_false n3
  by_cases n4 : (Y : Int) + (W : Int) ≤ y0
  · have t4 : decide ((Y : Int) + (W : Int) ≤ y0) = true := decide_eq_true n4
    go_enter Try.func33, Try.ntmps33
    go_wp2_with fail
    go_ret
    exact ⟨_, rfl, by rw [HNone.out (.inr (.inr (.inr (by omega))))]; exact HOw.out.alloc _, (Grew.refl w _).alloc _⟩
  have t4 : decide ((Y : Int) + (W : Int) ≤ y0) = false := decide_eq_false n4
  by_cases a1 : x0 ≤ (X : Int) ∧ y0 ≤ (Y : Int) ∧ (X : Int) + (W : Int) - 1 ≤ x1 ∧ (Y : Int) + (W : Int) - 1 ≤ y1
  · have HAll := Lib.hid (HAll.out a1.1 a1.2.1 (by omega) (by omega))
    have u1 : decide (x0 ≤ (X : Int)) = true := decide_eq_true a1.1
    have u2 : decide (y0 ≤ (Y : Int)) = true := decide_eq_true a1.2.1
    have u3 : decide ((X : Int) + (W : Int) - 1 ≤ x1) = true := decide_eq_true a1.2.2.1
    have u4 : decide ((Y : Int) + (W : Int) - 1 ≤ y1) = true := decide_eq_true a1.2.2.2
    have s1 := Lib.hid fun W => spread_any X W (by omega)
    have s2 := Lib.hid fun W => spread_any Y W (by omega)
    have hz := code_or X Y (by omega) (by omega)
    have l2 := spN_lt Y (by omega)
    have hzc : zipB X Y 21 = C := by rw [show 21 = 8 + 13 from rfl, zip_more X Y 8 (by omega) (by omega) 13, cdK_zip]; exact HCode.out
    rw [hzc] at hz
    have hww : (W : Int) * (W : Int) = (F : Int) := by rw [← Int.natCast_mul, HWW.out]
    clear hzc a1 n1 n2 n3 n4 HIh HQ HF HF0 HNone HCode
    generalize spN X = p at *
    generalize spN Y = pq at *
    have HH : Hid ((C : Int) + (F : Int) - 1 = ((C + (F - 1) : Nat) : Int)) := Lib.hid (by omega)
    have HGr := Lib.hid ((Grew.refl w (.slice A (runsK (inC x0 y0 x1 y1) C).length c)).alloc (.cells #[.int .i64 x0, .int .i64 y0, .int .i64 x1, .int .i64 y1] 51))
    rw [HAll.out]
    obtain ⟨L, hL⟩ : ∃ L, runsK (inC x0 y0 x1 y1) C = L := ⟨_, rfl⟩
    rw [hL] at HOw HNe HGr ⊢
    have hLlen : L.length ≤ 65536 := by rw [← hL]; have := runsK_len (inC x0 y0 x1 y1) C; omega
    clear hL HAll
    rcases List.eq_nil_or_concat L with rfl | ⟨m, ⟨a, b⟩, rfl⟩
    · rw [addRun_nil]
      have hnl : ([] : List (Nat × Nat)).length = 0 := rfl
      rw [hnl] at HOw HGr HNe ⊢
      clear hnl
      go_enter Try.func33, Try.ntmps33
      go_upto_region 7 with (first
        | (go_at_call 39; (with_reducible refine (s1.out _).mono ?_); rintro e w1 ⟨rfl, rfl⟩)
        | (go_at_call 39; (with_reducible refine (s2.out _).mono ?_); rintro e w1 ⟨rfl, rfl⟩))
      go_wp2_with (at_builtin; refine wpList_pushM el_span rfl (.tmp 104) (.tmp 108) rfl base _ 0 _ (HOw.out.alloc _ |>.alloc _) rfl ⟨w.heap.size + 1, 0, none⟩ 1 _ [.int .i64 (C : Int), .int .i64 ((C : Int) + (F : Int) - 1)] rfl rfl (span_news (by simp)) span_ones (by omega) (by omega) (by simp; omega) ?_; intro v' w2 hown2 hg2 hl2)
      go_ret
      refine ⟨_, rfl, ?_, ((HGr.out.alloc _).push hg2 hl2)⟩
      have := hown2
      rw [HH.out, flatR_nil] at this
      have e1 := flatR_snoc [] C (C + (F - 1))
      rw [flatR_nil, List.nil_append, List.nil_append] at e1
      rw [e1]
      exact this
    · rw [List.concat_eq_append] at HOw HNe HGr hLlen ⊢
      have hml : (m ++ [(a, b)]).length = m.length + 1 := by simp
      rw [hml] at HOw HNe HGr hLlen ⊢
      have HMl := Lib.hid hml
      clear hml
      have hfl := Lib.hid (flatR_len m)
      obtain ⟨g, cap, hv, hbg, hgl⟩ := HOw.out.form (by omega)
      injection hv with hA _ hc
      subst hA hc
      have k9 : w.cell? ⟨g, m.length * 2 + 1, none⟩ = some (.int .i64 b) := by
        rw [HOw.out.cellAt _ (by omega), flatR_snoc, List.getElem?_map, List.getElem?_append_right (by rw [hfl.out]; omega), hfl.out]
        simp
      have f9 := HOw.out.frozenAt (m.length * 2 + 1)
      have hgn : g ≠ w.heap.size := by omega
      have j1 : ((m.length + 1 : Nat) : Int) - 1 = (m.length : Int) := by omega
      by_cases hb : b + 1 = C
      · subst hb
        rw [addRun_on]
        have j2 : ((b + 1 : Nat) : Int) - 1 = (b : Int) := by omega
        have j3 : ((b : Int) == ((b + 1 : Nat) : Int) - 1) = true := beq_iff_eq.2 (by omega)
        go_enter Try.func33, Try.ntmps33
        go_upto_region 7 with (first
          | (go_at_call 39; (with_reducible refine (s1.out _).mono ?_); rintro e w1 ⟨rfl, rfl⟩)
          | (go_at_call 39; (with_reducible refine (s2.out _).mono ?_); rintro e w1 ⟨rfl, rfl⟩))
        go_wp2_with fail
        go_ret
        have e9 : (((b + 1 + (F - 1) : Nat) : Int)) = (b : Int) + 1 + (F : Int) - 1 := by omega
        have ho := HOw.out.stored (m.length * 2 + 1) (.int .i64 (((b + 1 + (F - 1) : Nat) : Int)))
        refine ⟨_, rfl, ?_, ?_⟩
        · have h1 := ho.1
          have e1 : ((flatR (m ++ [(a, b)])).map (Value.int .i64)).set (m.length * 2 + 1) (.int .i64 (((b + 1 + (F - 1) : Nat) : Int))) = (flatR (m ++ [(a, b + 1 + (F - 1))])).map (Value.int .i64) := by
            rw [flatR_snoc, flatR_snoc, List.map_append, List.map_append, List.set_append_right _ _ (by rw [List.length_map, hfl.out]; omega), List.length_map, hfl.out, show m.length * 2 + 1 - m.length * 2 = 1 from by omega]
            rfl
          rw [e1, e9] at h1
          rw [show (m ++ [(a, b + 1 + (F - 1))]).length = m.length + 1 from by simp]
          exact h1.alloc _
        · have h2 := ho.2
          rw [e9] at h2
          exact ((Grew.refl w _).push h2 fun g h => .inl h).alloc _
      · rw [addRun_off _ hb]
        have j2 : ((b : Int) == (C : Int) - 1) = false := beq_eq_false_iff_ne.2 (by omega)
        go_enter Try.func33, Try.ntmps33
        go_upto_region 7 with (first
          | (go_at_call 39; (with_reducible refine (s1.out _).mono ?_); rintro e w1 ⟨rfl, rfl⟩)
          | (go_at_call 39; (with_reducible refine (s2.out _).mono ?_); rintro e w1 ⟨rfl, rfl⟩))
        go_wp2_with (at_builtin; refine wpList_pushM el_span rfl (.tmp 104) (.tmp 108) rfl base _ (m.length + 1) _ (HOw.out.alloc _ |>.alloc _) rfl ⟨w.heap.size + 1, 0, none⟩ 1 _ [.int .i64 (C : Int), .int .i64 ((C : Int) + (F : Int) - 1)] rfl rfl (span_news (by simp)) span_ones (by omega) (by omega) (by simp; omega) ?_; intro v' w2 hown2 hg2 hl2)
        go_ret
        refine ⟨_, rfl, ?_, ((HGr.out.alloc _).push hg2 hl2)⟩
        have := hown2
        rw [HH.out] at this
        rw [flatR_snoc, List.map_append]
        simp only [List.length_append, List.length_singleton]
        exact this
  · -- squares of a square
    have hk0 : ∃ j, k = j + 1 := by
      rcases Nat.eq_zero_or_pos k with h0 | h0
      · exfalso
        have hw1 : W = 1 := by rw [← HX.out.2.2.1, h0]
        subst hw1
        exact a1 ⟨by omega, by omega, by omega, by omega⟩
      · exact ⟨k - 1, by omega⟩
    obtain ⟨j, hj⟩ := hk0
    obtain ⟨f1, f2, f3⟩ := HF0.out j hj
    have a2 : decide (x0 ≤ (X : Int)) = false ∨ (decide (x0 ≤ (X : Int)) = true ∧ decide (y0 ≤ (Y : Int)) = false) ∨ (decide (x0 ≤ (X : Int)) = true ∧ decide (y0 ≤ (Y : Int)) = true ∧ decide ((X : Int) + (W : Int) - 1 ≤ x1) = false) ∨ (decide (x0 ≤ (X : Int)) = true ∧ decide (y0 ≤ (Y : Int)) = true ∧ decide ((X : Int) + (W : Int) - 1 ≤ x1) = true ∧ decide ((Y : Int) + (W : Int) - 1 ≤ y1) = false) := by
      by_cases b1 : x0 ≤ (X : Int)
      · by_cases b2 : y0 ≤ (Y : Int)
        · by_cases b3 : (X : Int) + (W : Int) - 1 ≤ x1
          · exact .inr (.inr (.inr ⟨decide_eq_true b1, decide_eq_true b2, decide_eq_true b3, decide_eq_false fun b4 => a1 ⟨b1, b2, b3, b4⟩⟩))
          · exact .inr (.inr (.inl ⟨decide_eq_true b1, decide_eq_true b2, decide_eq_false b3⟩))
        · exact .inr (.inl ⟨decide_eq_true b1, decide_eq_false b2⟩)
      · exact .inl (decide_eq_false b1)
    obtain ⟨W2, hW2⟩ : ∃ W2, 2 ^ j = W2 := ⟨_, rfl⟩
    obtain ⟨F2, hF2⟩ : ∃ F2, 4 ^ j = F2 := ⟨_, rfl⟩
    rw [hW2] at f3
    rw [hF2] at f1 f2
    have hw2 : (W : Int) / 2 = (W2 : Int) := by omega
    have hw3 : W2 ≤ 128 := by omega
    have hp2' : 0 < W2 := by omega
    have HCall : Hid (∀ i x y, i < 4 → x = (X : Int) + (W2 * (i % 2) : Nat) → y = (Y : Int) + (W2 * (i / 2) : Nat) → ∀ (W0 : World) (u : Value), base ≤ W0.heap.size → W0.ownsRow base 62 2 u (runsK (inC x0 y0 x1 y1) (F2 * (4 * q + i))).length ((flatR (runsK (inC x0 y0 x1 y1) (F2 * (4 * q + i)))).map (Value.int .i64)) →
        Calls Try.prog 33 #[.agg #[.int .i64 x0, .int .i64 y0, .int .i64 x1, .int .i64 y1], .int .i64 x, .int .i64 y, .int .i64 W2, u] W0 (GivesCover 62 base W0 u (runsK (inC x0 y0 x1 y1) (F2 * (4 * q + (i + 1)))))) := Lib.hid (by
      rintro i x y hi rfl rfl W0 u hb ho
      have h1 := HQ.out j i hj hi
      have h2 := HF.out j i hj
      have h3 : 4 ^ j * (4 * q + i) + 4 ^ j ≤ 65536 := by
        rw [h2]
        have : 4 ^ j * (4 * q + (i + 1)) ≤ 4 ^ j * (4 * q + 4) := Nat.mul_le_mul_left _ (by omega)
        rw [hF2] at this ⊢
        omega
      have h4 := HIh.out j (by omega) (4 * q + i) W0 u (by omega) h3 hb (by rw [hF2]; exact ho)
      rw [h2, h1.1, h1.2, hW2, hF2] at h4
      rw [show ((X : Int) + ((W2 * (i % 2) : Nat) : Int)) = ((X + W2 * (i % 2) : Nat) : Int) from by push_cast; rfl, show ((Y : Int) + ((W2 * (i / 2) : Nat) : Int)) = ((Y + W2 * (i / 2) : Nat) : Int) from by push_cast; rfl]
      exact h4)
    rw [← f2]
    rw [← f1] at HOw HNe ⊢
    have HGr := Lib.hid ((Grew.refl w (.slice A (runsK (inC x0 y0 x1 y1) (F2 * (4 * q + 0))).length c)).alloc (.cells #[.int .i64 x0, .int .i64 y0, .int .i64 x1, .int .i64 y1] 51))
    clear HIh HQ HF HF0 HNone HAll HCode HWW f1 f2 f3 hW2 hF2 a1
    rcases a2 with u1 | ⟨u1, u2⟩ | ⟨u1, u2, u3⟩ | ⟨u1, u2, u3, u4⟩
    all_goals
      go_enter Try.func33, Try.ntmps33
      go_wp2_with fail
      go_loopw [4, 14, 112] (fun ov _ iv wr => ∃ i : Nat, i ≤ 4 ∧ iv = .int .i64 i ∧ Hid (wr.ownsRow base 62 2 ov (runsK (inC x0 y0 x1 y1) (F2 * (4 * q + i))).length ((flatR (runsK (inC x0 y0 x1 y1) (F2 * (4 * q + i)))).map (Value.int .i64))) ∧ Hid (Grew w wr (.slice A (runsK (inC x0 y0 x1 y1) (F2 * (4 * q + 0))).length c) ov) ∧ Hid (Blk wr w.heap.size 51 #[.int .i64 x0, .int .i64 y0, .int .i64 x1, .int .i64 y1] ∧ ov.ownBlock ≠ some w.heap.size ∧ base ≤ wr.heap.size)) (fun _ _ iv _ => 4 - (intOf iv).toNat)
      case atStart => exact ⟨0, by omega, rfl, Lib.hid (HOw.out.alloc _), HGr, Lib.hid ⟨HBx.out, HNe.out, by simp; omega⟩⟩
      case round =>
        obtain ⟨wi, rfl⟩ : ∃ wi : World, wi = wr := ⟨_, rfl⟩
        obtain ⟨i, hi, rfl, HO, HG, HB⟩ := hrel
        have b0 := (HB.out.1.cell 0).trans rfl
        have b1 := (HB.out.1.cell 1).trans rfl
        have b2 := (HB.out.1.cell 2).trans rfl
        have b3 := (HB.out.1.cell 3).trans rfl
        by_cases hlt : i < 4
        · have hzi := HG.out.size
          have HFin : Hid (∀ (u : Value) (W0 w3 : World) (v3 : Value), Grew wi w3 u v3 → u.ownBlock ≠ some w.heap.size → Grew w wi (.slice A (runsK (inC x0 y0 x1 y1) (F2 * (4 * q + 0))).length c) u → Hid (Grew w w3 (.slice A (runsK (inC x0 y0 x1 y1) (F2 * (4 * q + 0))).length c) v3) ∧ Hid (Blk w3 w.heap.size 51 #[.int .i64 x0, .int .i64 y0, .int .i64 x1, .int .i64 y1] ∧ v3.ownBlock ≠ some w.heap.size ∧ base ≤ w3.heap.size)) := Lib.hid fun u W0 w3 v3 h1 h2 h3 => ⟨Lib.hid (h3.trans h1), Lib.hid ⟨h1.blk HB.out.1 h2, h1.far HB.out.1.lt h2, Nat.le_trans HB.out.2.2 h1.size⟩⟩
          obtain ⟨A5, c5, rfl⟩ := own_shape HO.out
          rcases (show i = 0 ∨ i = 1 ∨ i = 2 ∨ i = 3 by omega) with rfl | rfl | rfl | rfl
          · have HC := Lib.hid (HCall.out 0 (X : Int) (Y : Int) (by omega) (by simp) (by simp) wi _ HB.out.2.2 HO.out)
            go_wp2_with (go_at_call 33; refine (HC.out).mono ?_; rintro e1 w3 ⟨v3, rfl, ho3, hg3⟩)
            go_roundw
            case rel => exact ⟨1, by omega, rfl, Lib.hid ho3, HFin.out _ w _ _ hg3 HB.out.2.1 HG.out⟩
            case measure => simp [intOf]
          · have HC := Lib.hid (HCall.out 1 ((X : Int) + (W2 : Int)) (Y : Int) (by omega) (by simp) (by simp) wi _ HB.out.2.2 HO.out)
            go_wp2_with (go_at_call 33; refine (HC.out).mono ?_; rintro e1 w3 ⟨v3, rfl, ho3, hg3⟩)
            go_roundw
            case rel => exact ⟨2, by omega, rfl, Lib.hid ho3, HFin.out _ w _ _ hg3 HB.out.2.1 HG.out⟩
            case measure => simp [intOf]
          · have HC := Lib.hid (HCall.out 2 (X : Int) ((Y : Int) + (W2 : Int)) (by omega) (by simp) (by simp) wi _ HB.out.2.2 HO.out)
            go_wp2_with (go_at_call 33; refine (HC.out).mono ?_; rintro e1 w3 ⟨v3, rfl, ho3, hg3⟩)
            go_roundw
            case rel => exact ⟨3, by omega, rfl, Lib.hid ho3, HFin.out _ w _ _ hg3 HB.out.2.1 HG.out⟩
            case measure => simp [intOf]
          · have HC := Lib.hid (HCall.out 3 ((X : Int) + (W2 : Int)) ((Y : Int) + (W2 : Int)) (by omega) (by simp) (by simp) wi _ HB.out.2.2 HO.out)
            go_wp2_with (go_at_call 33; refine (HC.out).mono ?_; rintro e1 w3 ⟨v3, rfl, ho3, hg3⟩)
            go_roundw
            case rel => exact ⟨4, by omega, rfl, Lib.hid ho3, HFin.out _ w _ _ hg3 HB.out.2.1 HG.out⟩
            case measure => simp [intOf]
        · obtain rfl : i = 4 := by omega
          go_wp2_with fail
          go_ret
          exact ⟨_, rfl, HO.out, HG.out⟩
end Go.Proofs.Ytdmfhpigchbcbaa
