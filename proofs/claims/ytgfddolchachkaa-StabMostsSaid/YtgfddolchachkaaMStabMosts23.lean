/-
  Contract of the reference's StabMost: how many spans have one number, and the least such number, or the code of what is refused. Conditions: the spans can be read as data.
-/
import Derived.Test.YtgfddolchachkaaMStabMosts19
import Derived.Test.YtgfddolchachkaaMStabMosts22
namespace Go.Dam
open Go Go.RowKit
theorem placesOf_count (p : Nat → Bool) : ∀ n, (placesOf p n).length = (List.range n).countP p
  | 0 => by rw [placesOf_0]; simp
  | n + 1 => by
    rw [List.range_succ, List.countP_append, ← placesOf_count p n]
    cases h : p n with
    | true => rw [placesOf_yes h]; simp [h]
    | false => rw [placesOf_no h]; simp [h]
theorem hasNum_cover (l : List Int) (n : Nat) (x : Int) : (placesOf (hasNum l x) n).length = cover l n x := by
  rw [placesOf_count]
  unfold cover
  congr 1
  funext i
  rw [loS_eq, hiS_eq]
  unfold hasNum
  rfl
end Go.Dam
namespace Go.Proofs.Ytgfddolchachkaa
open Go Go.RowKit Go.Dam
set_option linter.unusedVariables false
set_option maxHeartbeats 4000000 in
theorem refMost_any (v : Value) (n : Nat) (l : List Int) (m a cc : Int) (w : World) (B : Nat) (hB : B ≤ w.heap.size) (h : IsFlat 2 w B v n l) (hR : MostAns n l m a cc) :
    Calls Try.prog 22 #[v] w fun e w' => e = .returned (.tuple #[.int .i64 m, .int .i64 a, .int .i64 cc]) ∧ Below w.heap.size w w' := by
  have HC := Lib.hid (spansFault_any v n l w B hB h)
  rcases hR with ⟨h0, rfl, rfl, rfl⟩ | ⟨h0, rfl, rfl, rfl, rfl⟩ | ⟨h0, hn0, rfl, k, rfl, hM⟩
  · obtain ⟨A, c, rfl, hc, hm, hn, hl, hr, hw⟩ := h
    generalize spCode n l = cc at *
    have t0 : (cc != 0) = true := bne_iff_ne.2 h0
    clear h0 hl hr hw
    go_enter Try.func22, Try.ntmps22
    go_wp2_with (go_at_call 26; refine (HC.out).mono ?_; rintro e w1 ⟨rfl, hb1⟩)
    refine bodyPost_ret (results_tmp3 rfl _ _ _) rfl ?_
    exact ⟨rfl, hb1⟩
  · obtain ⟨A, c, rfl, hc, hm, hn, hl, hr, hw⟩ := h
    rw [h0] at HC
    clear h0 hl hr hw
    go_enter Try.func22, Try.ntmps22
    go_wp2_with (go_at_call 26; refine (HC.out).mono ?_; rintro e w1 ⟨rfl, hb1⟩)
    refine bodyPost_ret (results_tmp3 rfl _ _ _) rfl ?_
    exact ⟨rfl, hb1⟩
  · obtain ⟨hn100, hok⟩ := sp_lohi h0
    have HS := Lib.hid fun w1 (hb : Below w.heap.size w w1) (x : Int) => stabOf_any v n l x (placesOf (hasNum l x) n) 0 w1 B (Nat.le_trans hB hb.size) (h.below (hb.mono hB)) ⟨h0.symm, by rw [if_pos rfl]⟩
    rw [h0] at HC
    obtain ⟨A, c, rfl, hc, hm, hn, hl, hr, hw⟩ := h
    obtain ⟨bk, off, rfl, hbk, hcells⟩ := flat_cells hr hl (by omega) (by omega)
    have HLc : Hid (∀ i, i < n → w.cell? ⟨bk, off + i * 2, none⟩ = some (.int .i64 (loS l i)) ∧ w.cell? ⟨bk, off + i * 2 + 1, none⟩ = some (.int .i64 (hiS l i))) := Lib.hid fun i hi =>
      ⟨by rw [loS_eq]; exact hcells (i * 2) (by omega), by rw [hiS_eq]; exact hcells (i * 2 + 1) (by omega)⟩
    have HOk := Lib.hid hok
    have HM := Lib.hid hM
    have t0 : ((n : Int) == 0) = false := beq_eq_false_iff_ne.2 (by omega)
    clear h0 hl hr hw hcells hok hM
    go_enter Try.func22, Try.ntmps22
    go_wp2_with (go_at_call 26; refine (HC.out).mono ?_; rintro e w1 ⟨rfl, hb1⟩; have HB1 := Lib.hid hb1; clear hb1)
    go_loopw [6, 7, 9, 10, 11, 22] (fun mv av _ _ _ iv wr => ∃ (i many : Nat) (at_ : Int), i ≤ n ∧ iv = .int .i64 i ∧ mv = .int .i64 many ∧ av = .int .i64 at_ ∧ Hid (RefMost l n i many at_) ∧ Hid (Below w.heap.size w wr)) (fun _ _ _ _ _ iv _ => n - (intOf iv).toNat)
    case atStart => exact ⟨0, 0, 0, by omega, rfl, rfl, rfl, Lib.hid .start, HB1⟩
    case round =>
      obtain ⟨i, many, at_, hi, rfl, rfl, rfl, HP, HB⟩ := hrel
      by_cases hlt : i < n
      · have hz := HB.out.size
        have c0 := (HB.out.cell (p := ⟨bk, off + i * 2, none⟩) (by show bk < _; omega)).trans (HLc.out i hlt).1
        have c1 := (HB.out.cell (p := ⟨bk, off + i * 2 + 1, none⟩) (by show bk < _; omega)).trans (HLc.out i hlt).2
        obtain ⟨x, hx⟩ : ∃ x, x = loS l i := ⟨_, rfl⟩
        have hxy := HOk.out i hlt
        obtain ⟨cv, hcv⟩ : ∃ cv, cv = Go.Dam.cover l n (loS l i) := ⟨_, rfl⟩
        have HT : Hid (many < cv ∨ (cv = many ∧ x < at_) → RefMost l n (i + 1) cv x) := Lib.hid (by rw [hcv, hx]; exact fun h => HP.out.take hlt hxy h)
        have HL : Hid (¬ (many < cv ∨ (cv = many ∧ x < at_)) → RefMost l n (i + 1) many at_) := Lib.hid (by rw [hcv, hx]; exact fun h => HP.out.leave hlt hxy h)
        have HLen : Hid ((placesOf (hasNum l x) n).length = cv) := Lib.hid (by rw [hasNum_cover, hcv, hx])
        rw [← hx] at c0
        generalize hiS l i = y at c1
        clear hx hcv hxy
        by_cases hc1 : many < cv
        · have t1 : decide ((cv : Int) > (many : Int)) = true := decide_eq_true (by omega)
          go_wp2_with (go_at_call 57; refine (HS.out _ (HB.out.alloc hz _) _).mono ?_; rintro e w2 ⟨v2, rfl, hi2, hb2⟩; obtain ⟨A2, c2, rfl, _, _, _⟩ := hi2.open_ HLen.out; have HB2 := Lib.hid hb2; have k0 := (((Blk.new wr 91 #[.int .i64 x, .int .i64 y]).below hb2 (by simp)).cell 0).trans rfl; clear hi2 hb2)
          go_roundw
          case rel => exact ⟨i + 1, cv, x, by omega, by go_num, rfl, rfl, Lib.hid (HT.out (.inl hc1)), Lib.hid ((HB.out.alloc hz _).trans (HB2.out.mono (by simp; omega)))⟩
          case measure => simp [intOf]; omega
        · have t1 : decide ((cv : Int) > (many : Int)) = false := decide_eq_false (by omega)
          by_cases hc2 : cv = many
          · have t2 : ((cv : Int) == (many : Int)) = true := beq_iff_eq.2 (by omega)
            by_cases hc3 : x < at_
            · have t3 : decide (x < at_) = true := decide_eq_true hc3
              go_wp2_with (go_at_call 57; refine (HS.out _ (HB.out.alloc hz _) _).mono ?_; rintro e w2 ⟨v2, rfl, hi2, hb2⟩; obtain ⟨A2, c2, rfl, _, _, _⟩ := hi2.open_ HLen.out; have HB2 := Lib.hid hb2; have k0 := (((Blk.new wr 91 #[.int .i64 x, .int .i64 y]).below hb2 (by simp)).cell 0).trans rfl; clear hi2 hb2)
              go_roundw
              case rel => exact ⟨i + 1, cv, x, by omega, by go_num, (by first | rfl | rw [hc2]), rfl, Lib.hid (HT.out (.inr ⟨hc2, hc3⟩)), Lib.hid ((HB.out.alloc hz _).trans (HB2.out.mono (by simp; omega)))⟩
              case measure => simp [intOf]; omega
            · have t3 : decide (x < at_) = false := decide_eq_false hc3
              go_wp2_with (go_at_call 57; refine (HS.out _ (HB.out.alloc hz _) _).mono ?_; rintro e w2 ⟨v2, rfl, hi2, hb2⟩; obtain ⟨A2, c2, rfl, _, _, _⟩ := hi2.open_ HLen.out; have HB2 := Lib.hid hb2; have k0 := (((Blk.new wr 91 #[.int .i64 x, .int .i64 y]).below hb2 (by simp)).cell 0).trans rfl; clear hi2 hb2)
              go_roundw
              case rel => exact ⟨i + 1, many, at_, by omega, by go_num, rfl, rfl, Lib.hid (HL.out (by omega)), Lib.hid ((HB.out.alloc hz _).trans (HB2.out.mono (by simp; omega)))⟩
              case measure => simp [intOf]; omega
          · have t2 : ((cv : Int) == (many : Int)) = false := beq_eq_false_iff_ne.2 (by omega)
            go_wp2_with (go_at_call 57; refine (HS.out _ (HB.out.alloc hz _) _).mono ?_; rintro e w2 ⟨v2, rfl, hi2, hb2⟩; obtain ⟨A2, c2, rfl, _, _, _⟩ := hi2.open_ HLen.out; have HB2 := Lib.hid hb2; have k0 := (((Blk.new wr 91 #[.int .i64 x, .int .i64 y]).below hb2 (by simp)).cell 0).trans rfl; clear hi2 hb2)
            go_roundw
            case rel => exact ⟨i + 1, many, at_, by omega, by go_num, rfl, rfl, Lib.hid (HL.out (by omega)), Lib.hid ((HB.out.alloc hz _).trans (HB2.out.mono (by simp; omega)))⟩
            case measure => simp [intOf]; omega
      · obtain rfl : i = n := by omega
        obtain ⟨h1, h2⟩ := HM.out.uniq (HP.out.done hn0)
        subst h1 h2
        go_wp2
        refine bodyPost_ret (results_tmp3 rfl _ _ _) rfl ?_
        exact ⟨rfl, HB.out⟩
end Go.Proofs.Ytgfddolchachkaa
