/-
  Contracts of query.rank and of the function in query.text that puts brackets around a part. Conditions: the part's text is known.
-/
import Derived.Test.YtlojecajonhmhaaGreatDoorMQueryEvals03
import Derived.Deep.RegionHeld3
import Derived.BigQuiet
import Derived.Deep.CutRange
set_option linter.unusedVariables false
set_option linter.unusedSimpArgs false
namespace Go.Dam.Q
open Go Go.RowKit Go.Dam
set_option linter.unusedVariables false
theorem add_str {P : Program} (a b : List UInt8) {c : List UInt8} (h : c = a ++ b) (hl : a.length + b.length ≤ 9223372036854775807) (W : World) : (Op.stringOp .add ⟨a.toArray⟩ ⟨b.toArray⟩).run P W = .ok (.string ⟨c.toArray⟩) W := by
  subst h
  rw [run_string_add_sum W _ _ (by show a.toArray.size + b.toArray.size ≤ _; simpa using hl)]
  congr 2
/-- How closely it is bound. -/
def rankQ (k : Int) : Int := if k = 4 then 1 else if k = 3 then 2 else 3
theorem wrapped_rank (k pk : Int) : wrapped k pk = (decide (rankQ pk ≤ rankQ k) && decide (rankQ pk < 3)) := by
  unfold wrapped rankQ
  by_cases h1 : pk = 4
  · subst h1
    have : (1 : Int) ≤ (if k = 4 then 1 else if k = 3 then 2 else 3) := by split <;> (try split) <;> omega
    simp [this]
  · by_cases h2 : pk = 3
    · subst h2
      by_cases h3 : k = 4
      · subst h3; rfl
      · have : (2 : Int) ≤ (if k = 4 then 1 else if k = 3 then 2 else 3) := by rw [if_neg h3]; split <;> omega
        have e : (k == 4) = false := beq_eq_false_iff_ne.2 h3
        simp [this, e]
    · have e1 : (pk == 4) = false := beq_eq_false_iff_ne.2 h1
      have e2 : (pk == 3) = false := beq_eq_false_iff_ne.2 h2
      rw [if_neg h1, if_neg h2, e1, e2]
      simp
end Go.Dam.Q
namespace Go.Proofs.YtlojecajonhmhaaGreatDoor
open Go Go.RowKit Go.Dam Go.Dam.Q
set_option linter.unusedVariables false
theorem queryRank_any (k : Int) (w : World) : Calls Tryz.prog 25 #[.int .i64 k] w fun e w' => e = .returned (.int .i64 (rankQ k)) ∧ w = w' := by
  obtain ⟨r, hr⟩ : ∃ r, r = rankQ k := ⟨_, rfl⟩
  rw [← hr]
  have HR := Lib.hid hr
  clear hr
  by_cases h1 : k = 4
  · subst h1
    go_enter Tryz.func25, Tryz.ntmps25
    go_wp2_with fail
    go_ret
    exact ⟨by rw [HR.out]; rfl, rfl⟩
  · have e1 : (k == 4) = false := beq_eq_false_iff_ne.2 h1
    by_cases h2 : k = 3
    · subst h2
      go_enter Tryz.func25, Tryz.ntmps25
      go_wp2_with fail
      go_ret
      exact ⟨by rw [HR.out]; rfl, rfl⟩
    · have e2 : (k == 3) = false := beq_eq_false_iff_ne.2 h2
      have HE : Hid (r = 3) := Lib.hid (by rw [HR.out]; unfold rankQ; rw [if_neg h1, if_neg h2])
      go_enter Tryz.func25, Tryz.ntmps25
      go_wp2_with fail
      go_ret
      exact ⟨by rw [HE.out]; rfl, rfl⟩
set_option maxRecDepth 100000 in
set_option maxHeartbeats 8000000 in
theorem queryPart_any (k pk x0 y0 x1 y1 ww : Int) (A : Option Addr) (n c bx : Nat) (T : List UInt8) (w : World) (hbx : w.cell? ⟨bx, 0, none⟩ = some (.int .i64 k)) (hT : T.length ≤ 140737488355328)
    (HT : ∀ W, Below w.heap.size w W → Calls Tryz.prog 14 #[exV pk x0 y0 x1 y1 ww A n c] W fun e W' => e = .returned (.string ⟨T.toArray⟩) ∧ Below W.heap.size W W') :
    Calls Tryz.prog 24 #[exV pk x0 y0 x1 y1 ww A n c, .pointer (some ⟨bx, 0, none⟩)] w fun e w' => e = .returned (.string ⟨(wrapT (wrapped k pk) T).toArray⟩) ∧ Below w.heap.size w w' := by
  obtain ⟨R, hR⟩ : ∃ R, R = wrapT (wrapped k pk) T := ⟨_, rfl⟩
  rw [← hR]
  rw [wrapped_rank] at hR
  have HRp := Lib.hid fun W => queryRank_any pk W
  have HRx := Lib.hid fun W => queryRank_any k W
  have HT := Lib.hid HT
  generalize rankQ pk = rp at *
  generalize rankQ k = rx at *
  have HRr := Lib.hid hR
  clear hR
  have hbl : bx < w.heap.size := cell_lt hbx
  have HB0 := Lib.hid fun o => (Below.refl w.heap.size w).alloc (Nat.le_refl _) o
  unfold exV at HT ⊢
  have hk0 := fun o => (World.cell?_alloc_lt w o ⟨bx, 0, none⟩ hbl).trans hbx
  clear hbx
  obtain ⟨Q, hQ⟩ : ∃ Q, Q = 40 :: T := ⟨_, rfl⟩
  have ha1 := fun W => add_str (P := Tryz.prog) [40] T (c := Q) (by rw [hQ]; rfl) (by simp; omega) W
  obtain ⟨Q2, hQ2⟩ : ∃ Q2, Q2 = 40 :: (T ++ [41]) := ⟨_, rfl⟩
  have ha2 := fun W => add_str (P := Tryz.prog) Q [41] (c := Q2) (by rw [hQ2, hQ]; rfl) (by rw [hQ]; simp; omega) W
  have HQ2 := Lib.hid hQ2
  clear hQ hQ2
  by_cases h1 : rp ≤ rx
  · have d1 : decide (rp ≤ rx) = true := decide_eq_true h1
    by_cases h2 : rp < 3
    · have d2 : decide (rp < 3) = true := decide_eq_true h2
      have HRE : Hid (R = Q2) := Lib.hid (by rw [HRr.out, d1, d2, HQ2.out]; rfl)
      go_enter Tryz.func24, Tryz.ntmps24
      go_wp2_with fail
      go_quiet ((first | (go_at_call 25; with_reducible exact quiet_of_same (HRp.out _)) | (go_at_call 25; with_reducible exact quiet_of_same (HRx.out _))))
      have HB1 := Lib.hid fun o => below_drewN (HB0.out o) nq
      go_wp2_with (go_at_call 14; refine (HT.out _ (HB1.out _)).mono ?_; rintro e w2 ⟨rfl, hb2⟩)
      go_ret
      exact ⟨by rw [HRE.out]; rfl, (HB1.out _).trans (hb2.mono (HB1.out _).size)⟩
    · have d2 : decide (rp < 3) = false := decide_eq_false h2
      have HRE : Hid (R = T) := Lib.hid (by rw [HRr.out, d1, d2]; rfl)
      clear ha1 ha2
      go_enter Tryz.func24, Tryz.ntmps24
      go_wp2_with fail
      go_quiet ((first | (go_at_call 25; with_reducible exact quiet_of_same (HRp.out _)) | (go_at_call 25; with_reducible exact quiet_of_same (HRx.out _))))
      have HB1 := Lib.hid fun o => below_drewN (HB0.out o) nq
      go_wp2_with (go_at_call 14; refine (HT.out _ (HB1.out _)).mono ?_; rintro e w2 ⟨rfl, hb2⟩)
      go_ret
      exact ⟨by rw [HRE.out]; rfl, (HB1.out _).trans (hb2.mono (HB1.out _).size)⟩
  · have d1 : decide (rp ≤ rx) = false := decide_eq_false h1
    have HRE : Hid (R = T) := Lib.hid (by rw [HRr.out, d1]; rfl)
    clear ha1 ha2
    go_enter Tryz.func24, Tryz.ntmps24
    go_wp2_with fail
    go_quiet ((first | (go_at_call 25; with_reducible exact quiet_of_same (HRp.out _)) | (go_at_call 25; with_reducible exact quiet_of_same (HRx.out _))))
    have HB1 := Lib.hid fun o => below_drewN (HB0.out o) nq
    go_wp2_with (go_at_call 14; refine (HT.out _ (HB1.out _)).mono ?_; rintro e w2 ⟨rfl, hb2⟩)
    go_ret
    exact ⟨by rw [HRE.out]; rfl, (HB1.out _).trans (hb2.mono (HB1.out _).size)⟩
end Go.Proofs.YtlojecajonhmhaaGreatDoor
