/-
  SkySkiesCardSaid (a tied card: the variable everywhere is tied to the program's text): for every input that can be read as data the law damask/damasklaw.SkySkies returns true, and each argument reads afterwards as it read before. The walk (XSkySkiesWalk) gives that it returns true and changes no old memory; this text lifts it to the given row. Conditions: none of its own.
-/
import Derived.Test.YtlojecajonhmhaaDoorMSkySkies42
import Derived.Test.YtlojecajonhmhaaDoorTie
import Derived.Test.YtlojecajonhmhaaDoorCards
import Derived.ProofKit
import Derived.LaidMore
import Derived.LaidLaws
import Derived.LaidHandle
import Derived.MakeChecks
import Derived.OpenShut
import Derived.SevenTiedAt
set_option linter.unusedVariables false
set_option linter.unusedSimpArgs false
namespace Go.Proofs.YtlojecajonhmhaaDoor.skySkies
open Go Go.ChangeShapes Go.WideShapes Go.ChangeAt Go.RowKit Go.Dam
set_option linter.unusedVariables false

theorem own : ownKnob Tryd.prog.godebug = none := by kernel_rfl
theorem laidOut : laidOutB Tryd.prog = true := by kernel_rfl
theorem gEv : Tryd.prog.globalNamed "damask/damaskref.everywhere" = some 0 := by kernel_rfl
theorem tEv : (Tryd.prog.globals[0]?).map (·.type) = some 23 := by kernel_rfl
/-- The door's own heap meets the condition. -/
theorem door_met (os : Os) (args : Array Value) : laidMetH Tryd.prog Rows.skySkiesRow.laid ((World.doorLaid Tryd.prog 400 os).forCall (fun _ _ => 0) ⟨#[], args, []⟩).memory :=
  laidMetH_of_parts3 (fuel := 8) (laidMet_of_run' 8 (by kernel_rfl) (by kernel_rfl)) (by kernel_rfl) (by kernel_rfl)
theorem int_cell {W : World} {H : Type} {enc : TypeId × Value → H} {base : Nat} {spare : Nat → Bool} {held : Bool} {m : Nat} {cs : List Value} {z : Int} {y : DataW H × List MemPlace} (h : DataW.trod enc Tryd.prog W base spare held m 3 cs = some y) (hy : y.1 = .lit (.int .i64 z)) : cs = [.int .i64 z] := by
  obtain ⟨k, e1, e2, _⟩ := DataW.trod_int Tryd.underlying3 h
  rw [e2] at hy
  have : k = z := by simpa using hy
  rw [e1, this]
/-- What the condition gives the walk. -/
theorem of_laid {W : World} (h : laidMetH Tryd.prog Rows.skySkiesRow.laid W) : Every W := by
  rw [MakeChecks.laidMetH_plain _ _ _ (by kernel_rfl)] at h
  obtain ⟨ps, ⟨g0, t0, cs0, f0, p0, q0, hg0, ht0, hv0, hd0, _, _⟩, _, _⟩ := h
  obtain rfl := Option.some.inj (gEv.symm.trans hg0)
  obtain rfl := Option.some.inj (tEv.symm.trans ht0)
  have hcell := fun i => World.var?_cell hg0 hv0 i
  obtain ⟨xs, m, _, hx, hlen, hn4, hf⟩ := DataW.trod_struct Tryd.underlying23 hd0
  have h4 : xs.length = 4 := hn4
  have hc4 : cs0.toList.length = 4 := hlen.trans (by kernel_rfl)
  obtain ⟨x0, x1, x2, x3, rfl⟩ : ∃ a b c d, xs = [a, b, c, d] := by
    match xs, h4 with
    | [a, b, c, d], _ => exact ⟨a, b, c, d, rfl⟩
  obtain ⟨c0, c1, c2, c3, hcs⟩ : ∃ a b c d, cs0.toList = [a, b, c, d] := by
    match h9 : cs0.toList, hc4 with
    | [a, b, c, d], _ => exact ⟨a, b, c, d, rfl⟩
  have hfst := congrArg Prod.fst hx
  simp only [List.map_cons, List.map_nil, Rows.laid_damask_damaskref_everywhere, DataW.agg.injEq, List.cons.injEq, and_true] at hfst
  obtain ⟨e0, e1, e2, e3⟩ := hfst
  have k1 : Tryd.prog.cellsOf 3 = 1 := by kernel_rfl
  have f0 := hf 0 _ rfl
  have f1 := hf 1 _ rfl
  have f2 := hf 2 _ rfl
  have f3 := hf 3 _ rfl
  rw [hcs] at f0 f1 f2 f3
  have r0 := int_cell f0 e0.symm
  have r1 := int_cell f1 e1.symm
  have r2 := int_cell f2 e2.symm
  have r3 := int_cell f3 e3.symm
  replace r0 : List.take (Tryd.prog.cellsOf 3) (List.drop 0 [c0, c1, c2, c3]) = _ := r0
  replace r1 : List.take (Tryd.prog.cellsOf 3) (List.drop 1 [c0, c1, c2, c3]) = _ := r1
  replace r2 : List.take (Tryd.prog.cellsOf 3) (List.drop 2 [c0, c1, c2, c3]) = _ := r2
  replace r3 : List.take (Tryd.prog.cellsOf 3) (List.drop 3 [c0, c1, c2, c3]) = _ := r3
  rw [k1] at r0 r1 r2 r3
  simp only [List.drop, List.take, List.cons.injEq, and_true] at r0 r1 r2 r3
  have at_ : ∀ i, W.cell? ⟨0, i, none⟩ = [c0, c1, c2, c3][i]? := fun i => by rw [hcell i, ← hcs, Array.getElem?_toList]
  exact ⟨by rw [at_ 0, r0]; rfl, by rw [at_ 1, r1]; rfl, by rw [at_ 2, r2]; rfl, by rw [at_ 3, r3]; rfl⟩

set_option maxRecDepth 100000 in
theorem lifted (os : Os) (started : os.Started) (H : Type) (enc : TypeId × Value → H) :
    ReturnsInHanded {} Tryd.checked os 5 .any (fun w args => (Rows.skySkiesSpec.pre enc Tryd.prog Tryd.f5 Rows.skySkiesRow.domain false w args ∧ laidMetH Tryd.prog Rows.skySkiesRow.laid w) ∧ sizedMet enc Tryd.prog Tryd.f5 (OpenSpec.ofChange Rows.skySkiesSpec) false w args) (Rows.skySkiesSpec.post enc Tryd.prog Tryd.f5 false true false false) := by
  refine returnsInHanded_of_change_and (C := Tryd.checked) (X := fun w _ => laidMetH Tryd.prog Rows.skySkiesRow.laid w) (fun _ _ _ hh h => h.of_heap hh) own started (by kernel_rfl) Tryd.func5
    (ChangeSpec.witness_shaped (enc := enc) (C := Tryd.checked) (os := os) (X := fun w _ => laidMetH Tryd.prog Rows.skySkiesRow.laid w) false (World.doorLaid Tryd.prog 400 os) #[.slice none 0 0] 8 rfl (World.shaped_of_RefB (by kernel_rfl) (by kernel_rfl)) (by kernel_rfl) (by kernel_rfl) (by kernel_rfl) (door_met os _)) ?_
  intro W base args ds gs before hval0 hW hcnd hsz hL _
  have hval : ∀ (j : Nat) t v, Tryd.f5.params[j]? = some t → args[j]? = some v → Value.okWide Tryd.prog W .any base t v := hval0
  have hW' := hW
  obtain ⟨p, q, hA0, hV, rfl, hfz, hnd⟩ := hW
  have hA : DataW.TrodAll enc Tryd.prog W 0 (fun _ => true) true Tryd.f5.params.toList args.toList ds p := hA0
  rw [Tryd.params5] at hA hval
  obtain ⟨v0, vs0, d0, ds0, p0, q0, hargs, rfl, rfl, h0, r0⟩ := trodAll_cons hA
  obtain ⟨rfl, rfl, rfl⟩ := trodAll_nil r0
  obtain rfl : args = #[v0] := by cases args; simp_all
  obtain ⟨rfl, rfl⟩ := trodVars_none hV
  have k0 := h0
  have lt0 : ∀ x ∈ p0, x.block < W.heap.size := by obtain ⟨m, hm⟩ := k0; exact DataW.trod_lt m _ _ _ hm
  have a0 := arg_flat (m := 3) Tryd.underlying32 Tryd.underlying46 (by kernel_rfl) (by kernel_rfl) rfl (by omega) (by intro f hf; simp at hf; rcases hf with rfl | rfl | rfl <;> exact Tryd.underlying3) (of_decide_eq_true (by kernel_rfl)) (hval 0 32 v0 rfl rfl) h0 (sized_arg hsz (j := 0) rfl rfl)
  refine (skySkies_walk v0 W a0 (of_laid hL)).mono fun e W' ⟨he, bel⟩ => ?_
  subst he
  exact ⟨_, rfl, _, _, _, [], _, [], hW', trodAll_mk1 (shut_bool Tryd.underlying4 _), (trodAll_cons_mk (Below.trod laidOut (by kernel_rfl) (of_decide_eq_true (by kernel_rfl)) k0 bel lt0) trodAll_mk0), rfl, bel.frame _, fun h => by cases h⟩

theorem over : Rows.skySkiesRow.holds Tryd.pinned (OpenSpec.ofChange Rows.skySkiesSpec) :=
  OpenClaim.holds_of_wide 5 Tryd.f5 rfl rfl rfl rfl rfl rfl rfl ⟨rfl, rfl, rfl, rfl, rfl⟩ rfl rfl rfl rfl rfl (by kernel_rfl) Tryd.func5 (by kernel_rfl)
    (of_decide_eq_true (by kernel_rfl)) (by unfold Func.isWrapper; first | (rw [if_pos (by decide +kernel)]; kernel_rfl) | (rw [if_neg (by decide +kernel)]; exact ⟨rfl, rfl⟩))
    (fun os started H enc _ => lifted os started H enc)

theorem proved : Rows.SkySkiesCardSaid :=
  Claim7.holds_tied_plain_at .later [] [.data] true (true, Rows.skySkiesCard.stood.harness.2) Rows.skySkiesCard.stood.looks
    over (fun _ h => by cases h) (by kernel_rfl) (fun _ h => by cases h) skySkies_row_tie rfl ⟨rfl, rfl⟩ (by kernel_rfl) rfl
    (fun f fn hf hfn => by
      obtain rfl : f = 5 := Option.some.inj ((show Tryd.prog.funcNamed "damask/damasklaw.SkySkies" = some 5 by kernel_rfl).symm.trans hf) |>.symm
      obtain rfl : fn = Tryd.f5 := (Option.some.inj (Tryd.func5.symm.trans hfn)).symm
      exact ⟨by kernel_rfl, fun j t ht => by
        rw [Tryd.params5] at ht
        have hm : t ∈ [32] := by simpa using Array.mem_of_getElem? ht
        have hall : ([32].all fun u => !Tryd.prog.wantsStandIn u) = true := by kernel_rfl
        exact (show Tryd.prog.wantsStandIn t = false by simpa using List.all_eq_true.1 hall t hm)⟩)
    (by kernel_rfl)
end Go.Proofs.YtlojecajonhmhaaDoor.skySkies
