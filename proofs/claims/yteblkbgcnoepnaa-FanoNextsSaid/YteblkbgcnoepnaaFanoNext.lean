/-
  Contracts of fano.Next and of the reference's FanoNext. Conditions: the struct can be read as data.
-/
import Derived.Test.YteblkbgcnoepnaaFanoAt
import Derived.Test.YteblkbgcnoepnaaSearchInts
namespace Go.Dam
open Go Go.RowKit
set_option linter.unusedVariables false
/-- What Next answers: the first place whose number is not below x. -/
def NextFR (l : List Int) (ok : Bool) (x r c : Int) : Prop :=
  (ok = false ∧ r = 0 ∧ c = 4) ∨ (ok = true ∧ ∃ k : Nat, RankOf l x k ∧ ((k = l.length ∧ r = 0 ∧ c = 7) ∨ (k < l.length ∧ r = k ∧ c = 0)))
theorem rank_ex {l : List Int} (h : Asc l) (x : Int) : ∀ n, n ≤ l.length → (∃ k, k ≤ n ∧ (∀ h, h < k → l.getD h 0 < x) ∧ ∀ h, k ≤ h → h < n → x ≤ l.getD h 0)
  | 0, _ => ⟨0, by omega, fun h hh => absurd hh (by omega), fun h h1 h2 => absurd h2 (by omega)⟩
  | n + 1, hn => by
    obtain ⟨k, h1, h2, h3⟩ := rank_ex h x n (by omega)
    by_cases hk : k = n
    · by_cases hx : l.getD n 0 < x
      · refine ⟨n + 1, by omega, fun j hj => ?_, fun j h1 h2 => absurd h2 (by omega)⟩
        rcases Nat.lt_or_ge j k with g | g
        · exact h2 j g
        · have : j = n := by omega
          rw [this]; exact hx
      · refine ⟨n, by omega, fun j hj => h2 j (by omega), fun j h4 h5 => ?_⟩
        have : j = n := by omega
        rw [this]; omega
    · refine ⟨k, by omega, h2, fun j h4 h5 => ?_⟩
      have a := h k j h4 (by omega)
      have b := h3 k (Nat.le_refl _) (by omega)
      omega
theorem OkF.asc {b : Int} {l : List Int} (h : OkF b l) : Asc l := fun i j hij hj => by
  have := sorted_mono (okF_iff.1 h).1 i (j - i) (by omega)
  rwa [show i + (j - i) = j from by omega] at this
theorem NextFR.ex {l : List Int} {ok : Bool} (h : ok = true → Asc l) (x : Int) : ∃ r c, NextFR l ok x r c := by
  cases ok with
  | false => exact ⟨_, _, .inl ⟨rfl, rfl, rfl⟩⟩
  | true =>
    obtain ⟨k, h1, h2, h3⟩ := rank_ex (h rfl) x l.length (Nat.le_refl _)
    by_cases hk : k = l.length
    · exact ⟨_, _, .inr ⟨rfl, k, ⟨h1, h2, h3⟩, .inl ⟨hk, rfl, rfl⟩⟩⟩
    · exact ⟨_, _, .inr ⟨rfl, k, ⟨h1, h2, h3⟩, .inr ⟨by omega, rfl, rfl⟩⟩⟩
end Go.Dam
namespace Go.Proofs.Yteblkbgcnoepnaa
open Go Go.RowKit Go.Dam
set_option linter.unusedVariables false
set_option maxHeartbeats 400000 in
theorem fanoNext_any (v : Value) (l : List Int) (ok : Bool) (x r cc : Int) (w : World) (B : Nat) (hB : B ≤ w.heap.size) (h : FanoIs w B v l ok) (hi64 : I64 x) (hR : NextFR l ok x r cc) :
    Calls Try.prog 34 #[v, .int .i64 x] w fun e w' => e = .returned (.tuple #[.int .i64 r, .int .i64 cc]) ∧ Below w.heap.size w w' := by
  have HRd := Lib.hid fun W (hW : Below w.heap.size w W) => readF_any (h.below (hW.mono hB)) (Nat.le_trans hB hW.size)
  obtain ⟨a, b, c, A1, k1, c1, d, A2, k2, c2, rfl⟩ := h.shape
  have HA := Lib.hid ((Below.refl w.heap.size w).alloc (Nat.le_refl _) (.cells #[.int .i64 a, .int .i64 b, .int .i64 c, .slice A1 k1 c1, .int .i64 d, .slice A2 k2 c2] 45))
  unfold I64 at hi64
  rcases hR with ⟨rfl, rfl, rfl⟩ | ⟨rfl, k, hk, hr⟩
  · clear h
    go_enter Try.func34, Try.ntmps34
    go_wp2_with (go_at_call 63; refine (HRd.out _ HA.out).mono ?_; rintro e w1 ⟨A3, c3, l3, rfl, h3, h33, hb1⟩)
    go_ret2
    exact ⟨rfl, below_box hb1⟩
  · obtain ⟨hl, bd, hok⟩ := h.good
    have HAsc := Lib.hid hok.asc
    have HK := Lib.hid hk
    clear h hok hk
    rcases hr with ⟨hk, rfl, rfl⟩ | ⟨hk, rfl, rfl⟩
    all_goals
      go_enter Try.func34, Try.ntmps34
      go_wp2_with (first
        | (go_at_call 63; refine (HRd.out _ HA.out).mono ?_; rintro e w1 ⟨A3, c3, l3, rfl, h3, h33, hb1⟩; obtain rfl := (h33 rfl).symm; have HL1 := Lib.hid h3; have HB1 := Lib.hid (below_box hb1); clear h3 h33 hb1)
        | (go_at_call 64; refine (searchInts_any _ _ x _ _ (Nat.le_refl _) HL1.out (by omega) HAsc.out).mono ?_; rintro e w2 ⟨⟨k', rfl, hk'⟩, hb2⟩; obtain rfl := HK.out.uniq hk'; clear hk'))
      go_ret2
      exact ⟨rfl, HB1.out.trans (hb2.mono HB1.out.size)⟩
set_option maxHeartbeats 400000 in
theorem refFanoNext_any (v : Value) (l : List Int) (ok : Bool) (x r cc : Int) (w : World) (B : Nat) (hB : B ≤ w.heap.size) (h : FanoIs w B v l ok) (hi64 : I64 x) (hR : NextFR l ok x r cc) :
    Calls Try.prog 35 #[v, .int .i64 x] w fun e w' => e = .returned (.tuple #[.int .i64 r, .int .i64 cc]) ∧ Below w.heap.size w w' := by
  have HRd := Lib.hid fun W (hW : Below w.heap.size w W) => refReadF_any (h.below (hW.mono hB)) (Nat.le_trans hB hW.size)
  obtain ⟨a, b, c, A1, k1, c1, d, A2, k2, c2, rfl⟩ := h.shape
  have HA := Lib.hid ((Below.refl w.heap.size w).alloc (Nat.le_refl _) (.cells #[.int .i64 a, .int .i64 b, .int .i64 c, .slice A1 k1 c1, .int .i64 d, .slice A2 k2 c2] 45))
  unfold I64 at hi64
  rcases hR with ⟨rfl, rfl, rfl⟩ | ⟨rfl, k, hk, hr⟩
  · clear h
    go_enter Try.func35, Try.ntmps35
    go_wp2_with (go_at_call 30; refine (HRd.out _ HA.out).mono ?_; rintro e w1 ⟨A3, c3, l3, rfl, h3, h33, hb1⟩)
    go_ret2
    exact ⟨rfl, below_box hb1⟩
  · obtain ⟨hl, bd, hok⟩ := h.good
    have hkl := hk.1
    have HLo := Lib.hid hk.2.1
    have HHi := Lib.hid hk.2.2
    have HRr := Lib.hid hr
    clear h hok hk hr
    go_enter Try.func35, Try.ntmps35
    go_wp2_with (go_at_call 30; refine (HRd.out _ HA.out).mono ?_; rintro e w1 ⟨A3, c3, l3, rfl, h3, h33, hb1⟩; obtain rfl := (h33 rfl).symm; obtain ⟨_, _, hv, _, _, _, hr, hw⟩ := h3; cases hv; have HB1 := Lib.hid (below_box hb1); clear h33 hb1 hw)
    have HRe := Lib.hid hr
    clear hr
    go_loopw [8, 9, 19] (fun av bv iv wr => ∃ j : Nat, iv = .int .i64 j ∧ j ≤ k ∧ Drawn w1 wr) (fun _ _ iv _ => l.length - (intOf iv).toNat)
    case atStart => exact ⟨0, rfl, by omega, Drawn.refl _⟩
    case round =>
      obtain ⟨j, rfl, hjk, hd⟩ := hrel
      by_cases hjl : j < l.length
      · obtain ⟨bk, off, rfl, hbk, hcells⟩ := ints_cells HRe.out (by omega)
        have kc := (hd.cell _).trans (hcells j hjl)
        have HD := Lib.hid hd
        have HNe : Hid (¬ (k = l.length)  ∨ j < k) := Lib.hid (by omega)
        have HLt := Lib.hid fun g : j < k => HLo.out j g
        have HGe := Lib.hid fun g : k ≤ j => HHi.out j g hjl
        clear hcells hd
        generalize l.getD j 0 = y at *
        by_cases hj : j < k
        · have hlt := HLt.out hj
          have hnx : ¬ x ≤ y := by omega
          go_wp2_with fail
          go_roundw
          case rel => exact ⟨j + 1, by go_num, by omega, HD.out⟩
          case measure => simp [intOf]; omega
        · have hnx := HGe.out (by omega)
          obtain rfl : j = k := by omega
          have HFin : Hid (r = (j : Int) ∧ cc = 0) := Lib.hid (by
            rcases HRr.out with ⟨q, _⟩ | ⟨_, q1, q2⟩
            · omega
            · exact ⟨q1, q2⟩)
          clear HRr HLo HHi HLt HGe
          go_wp2_with fail
          go_ret2
          exact ⟨ret2 (vint HFin.out.1.symm) (vint HFin.out.2.symm), HB1.out.trans ((HD.out.below _).mono HB1.out.size)⟩
      · have HFin : Hid (r = 0 ∧ cc = 7) := Lib.hid (by
          rcases HRr.out with ⟨_, q1, q2⟩ | ⟨q, _⟩
          · exact ⟨q1, q2⟩
          · omega)
        have HD := Lib.hid hd
        clear HRr HLo HHi hd
        go_wp2_with fail
        go_ret2
        exact ⟨ret2 (vint HFin.out.1.symm) (vint HFin.out.2.symm), HB1.out.trans ((HD.out.below _).mono HB1.out.size)⟩
end Go.Proofs.Yteblkbgcnoepnaa
