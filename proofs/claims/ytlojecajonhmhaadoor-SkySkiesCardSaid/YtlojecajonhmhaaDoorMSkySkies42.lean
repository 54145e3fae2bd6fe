/-
  The walk of the law SkySkies: sky.Sky and the reference answer alike. Conditions: the points can be read as data; the variable everywhere holds what the program's text lays.
-/
import Derived.Test.YtlojecajonhmhaaDoorMSkySkies41
set_option linter.unusedVariables false
set_option linter.unusedSimpArgs false
namespace Go.Proofs.YtlojecajonhmhaaDoor
open Go Go.RowKit Go.Dam Go.Dam.Sky
set_option linter.unusedVariables false
set_option maxHeartbeats 1000000 in
theorem skySkies_walk (v : Value) (w : World) (h : ∃ n l, IsFlat 3 w w.heap.size v n l) (hE : Every w) :
    Calls Tryd.prog 5 #[v] w fun e w' => e = .returned (.bool true) ∧ RowKit.Below w.heap.size w w' := by
  obtain ⟨n, l, h⟩ := h
  have H1 := Lib.hid (sky_any v n l w w.heap.size (Nat.le_refl _) h)
  have H2 := Lib.hid fun w1 (hb : RowKit.Below w.heap.size w w1) => refSky_any v n l w1 w.heap.size hb.size (h.below hb) (hE.below hb)
  obtain ⟨cc, hcc⟩ : ∃ c, c = ptCode n l := ⟨_, rfl⟩
  rw [← hcc] at H1 H2
  obtain ⟨A, c, rfl, hc, hm, hn, hl, hr, hw⟩ := h
  clear hr hl hw hcc hE
  go_enter Tryd.func5, Tryd.ntmps5
  go_wp2_with (first
    | (go_at_call 11; refine (H1.out).mono ?_; rintro e w1 ⟨u1, r, rfl, ha, hu1, hb1⟩; have HB1 := Lib.hid hb1; have HU1 := Lib.hid hu1; have HA := Lib.hid ha; obtain ⟨A1, c1, rfl, _⟩ := hu1; clear hb1 ha)
    | (go_at_call 12; refine (H2.out _ HB1.out).mono ?_; rintro e w2 ⟨u2, r', rfl, hc', hu2, hb2⟩; obtain rfl := HA.out.uniq hc'; have HB2 := Lib.hid hb2; have HU2 := Lib.hid hu2; obtain ⟨A2, c2, rfl, _⟩ := hu2; clear hb2 hc')
    | (go_at_call 13; refine (sameInts_any _ _ _ _ _ ((HU1.out.below HB2.out).more HB2.out.size) HU2.out).mono ?_; rintro e w3 ⟨rfl, hd3⟩; have HD3 := Lib.hid hd3; clear hd3))
  go_ret
  exact ⟨ret_bool (by simp), (HB1.out.trans (HB2.out.mono HB1.out.size)).trans (HD3.out.below _)⟩
end Go.Proofs.YtlojecajonhmhaaDoor
