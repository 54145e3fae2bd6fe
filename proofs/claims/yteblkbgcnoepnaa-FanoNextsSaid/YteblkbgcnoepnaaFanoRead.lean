/-
  Contracts of fano.sameBits and fano.read. Conditions: the struct can be read as data.
-/
import Derived.Test.YteblkbgcnoepnaaFanoAll
import Derived.Test.YteblkbgcnoepnaaFanoMakeAny
import Derived.Test.YteblkbgcnoepnaaFanoREx
namespace Go.Proofs.Yteblkbgcnoepnaa
open Go Go.RowKit Go.Dam
set_option linter.unusedVariables false
theorem givesRead_is {l : List Int} {ok b : Bool} {A : Option Addr} {c : Nat} {w w' : World} (hok : ok = b) (hi : IsInts .i64 w' w'.heap.size (.slice A l.length c) l) (hb : Below w.heap.size w w') : GivesRead l ok w (.returned (.tuple #[.slice A l.length c, .bool b])) w' :=
  ⟨A, c, l, by rw [hok], hi, fun _ => rfl, hb⟩
/-- Are two rows of bits one. -/
def eqB (n : Int) (ws : List Nat) (m : Int) (us : List Nat) : Bool := decide (n = m) && eqW ws us
theorem eqB_yes {n m : Int} {ws us : List Nat} (h : n = m) (g : ws = us) : eqB n ws m us = true := by unfold eqB; rw [decide_eq_true h, eqW_of g]; rfl
theorem eqB_no {n m : Int} {ws us : List Nat} (h : ¬ (n = m ∧ ws = us)) : eqB n ws m us = false := by
  unfold eqB
  by_cases g : n = m
  · rw [eqW_not fun e => h ⟨g, e⟩, Bool.and_false]
  · rw [decide_eq_false g, Bool.false_and]
attribute [irreducible] eqB
set_option maxHeartbeats 1000000 in
theorem sameBits_any (s t : Value) (n m : Int) (ws us : List Nat) (b : Bool) (w : World) (B B' : Nat) (hB : B ≤ w.heap.size) (hB' : B' ≤ w.heap.size) (h : IsWords w B s ws) (h' : IsWords w B' t us) (hb : eqB n ws m us = b) :
    Calls Try.prog 80 #[.agg #[.int .i64 n, s], .agg #[.int .i64 m, t]] w fun e w' => e = .returned (.bool b) ∧ Below w.heap.size w w' := by
  have HB : Hid (Below w.heap.size w ((w.alloc (.cells #[.int .i64 n, s] 24)).alloc (.cells #[.int .i64 m, t] 24))) := Lib.hid (((Below.refl _ _).alloc (Nat.le_refl _) _).alloc (by simp) _)
  have H1 := Lib.hid (h.below (HB.out.mono hB))
  have H2 := Lib.hid (h'.below (HB.out.mono hB'))
  have HE := Lib.hid hb
  clear h h' hb
  by_cases q : n = m
  · have r : (n == m) = true := by simp [q]
    have hE : Hid (eqW ws us = b) := Lib.hid (by
      rw [← HE.out]
      by_cases g : ws = us
      · rw [eqB_yes q g, eqW_of g]
      · rw [eqB_no fun e => g e.2, eqW_not g])
    have HW := Lib.hid (equalWords_any s t ws us b _ B B' H1.out H2.out hE.out)
    clear q HE
    cases b
    all_goals
      go_enter Try.func80, Try.ntmps80
      go_wp2_with (go_at_call 79; refine (HW.out).mono ?_; rintro e w1 ⟨rfl, hd⟩)
      go_ret
      exact ⟨rfl, HB.out.trans (hd.below _)⟩
  · have r : (n == m) = false := by simpa using q
    have hE : Hid (b = false) := Lib.hid (HE.out.symm.trans (eqB_no fun e => q e.1))
    clear q HE
    go_enter Try.func80, Try.ntmps80
    go_wp2_with fail
    go_ret
    exact ⟨by rw [hE.out]; rfl, HB.out⟩
set_option maxRecDepth 100000 in
set_option maxHeartbeats 1000000 in
theorem fanoRead_made (bd n1 m1 : Int) (A1 A2 : Option Addr) (c1 c2 : Nat) (ws1 : List Nat) (n2 : Int) (ws2 : List Nat) (l : List Int) (okA ok : Bool) (gbd gn1 gm : Int) (gws1 : List Nat) (gn2 : Int) (gws2 : List Nat) (gc : Int) (w : World) (B : Nat) (hB : B ≤ w.heap.size)
    (hbd : I64 bd) (h1 : IsWords w B (.slice A1 ws1.length c1) ws1) (h2 : IsWords w B (.slice A2 ws2.length c2) ws2)
    (hAll : ∀ Wd, Below w.heap.size w Wd → Calls Try.prog 78 #[.agg #[.int .i64 bd, .int .i64 n1, .int .i64 m1, .slice A1 ws1.length c1, .int .i64 n2, .slice A2 ws2.length c2]] Wd (GivesRead l okA Wd))
    (hR : FanoR bd l gbd gn1 gm gws1 gn2 gws2 gc (fun W l n m ws => ∃ c, PackR W l n m ws c)) (hok : ok = true ↔ (okA = true ∧ gc = 0 ∧ gm = m1 ∧ gws1 = ws1 ∧ gn2 = n2 ∧ gws2 = ws2)) :
    Calls Try.prog 63 #[.agg #[.int .i64 bd, .int .i64 n1, .int .i64 m1, .slice A1 ws1.length c1, .int .i64 n2, .slice A2 ws2.length c2]] w (GivesRead l ok w) := by
  have HAll := Lib.hid hAll
  have HA := Lib.hid ((Below.refl w.heap.size w).alloc (Nat.le_refl _) (.cells #[.int .i64 bd, .int .i64 n1, .int .i64 m1, .slice A1 ws1.length c1, .int .i64 n2, .slice A2 ws2.length c2] 45))
  have HBk := Lib.hid (Blk.new w 45 #[.int .i64 bd, .int .i64 n1, .int .i64 m1, .slice A1 ws1.length c1, .int .i64 n2, .slice A2 ws2.length c2])
  have HW1 := Lib.hid h1
  have HW2 := Lib.hid h2
  have HR := Lib.hid hR
  have HOk := Lib.hid hok
  clear hAll h1 h2 hR hok
  cases okA with
  | false =>
    have hno : Hid (ok = false) := Lib.hid (by
      cases hk : ok with
      | false => rfl
      | true => exact absurd (HOk.out.1 hk).1 (by decide))
    clear HOk HR
    go_enter Try.func63, Try.ntmps63
    go_wp2_with (go_at_call 78; refine (HAll.out _ HA.out).mono ?_; rintro e w1 ⟨A3, c3, l3, rfl, h3, h33, hb1⟩; have HB1 := Lib.hid (below_box hb1); clear h3 h33 hb1)
    go_ret2
    exact givesRead_no hno.out HB1.out
  | true =>
    have HMk := Lib.hid fun Wd v (h : IsInts .i64 Wd Wd.heap.size v l) => fanoMake_any bd v l gbd gn1 gm gws1 gn2 gws2 gc Wd Wd.heap.size (Nat.le_refl _) hbd h HR.out
    go_enter Try.func63, Try.ntmps63
    go_upto_region 5 with (first
      | (go_at_call 78; refine (HAll.out _ HA.out).mono ?_; rintro e w1 ⟨A3, c3, l3, rfl, h3, h33, hb1⟩; obtain rfl := h33 rfl; have hz1 := size_box hb1; have HK1 := Lib.hid (HBk.out.below hb1 HBk.out.lt); have k10 := HK1.out.cell 0; have HL1 := Lib.hid h3; have HB1 := Lib.hid (below_box hb1); clear h3 h33 hb1)
      | (go_at_call 27; refine (HMk.out _ _ HL1.out).mono ?_; rintro e w5 ⟨t1, t2, rfl, ⟨B1, d1, rfl, h3⟩, ⟨B2, d2, rfl, h4⟩, hb5⟩; have H3 : Hid (IsWords w5 w5.heap.size (.slice B1 gws1.length d1) gws1) := Lib.hid ⟨B1, d1, rfl, h3⟩; have H4 : Hid (IsWords w5 w5.heap.size (.slice B2 gws2.length d2) gws2) := Lib.hid ⟨B2, d2, rfl, h4⟩; have HB5 := Lib.hid hb5; have hz5 := hb5.size; have HK5 := Lib.hid (HK1.out.below hb5 (by omega)); clear h3 h4 hb5))
    have HX := Lib.hid ((HK5.out).alloc (.cells #[.int .i64 gbd, .int .i64 gn1, .int .i64 gm, .slice B1 gws1.length d1, .int .i64 gn2, .slice B2 gws2.length d2] 45))
    have HY := Lib.hid (Blk.new w5 45 #[.int .i64 gbd, .int .i64 gn1, .int .i64 gm, .slice B1 gws1.length d1, .int .i64 gn2, .slice B2 gws2.length d2])
    have HG := Lib.hid ((Below.refl w5.heap.size w5).alloc (Nat.le_refl _) (.cells #[.int .i64 gbd, .int .i64 gn1, .int .i64 gm, .slice B1 gws1.length d1, .int .i64 gn2, .slice B2 gws2.length d2] 45))
    have hwr5 : w.heap.size ≤ w5.heap.size := by omega
    have HB6 := Lib.hid ((HB1.out.trans (HB5.out.mono HB1.out.size)).trans (HG.out.mono hwr5))
    have G1 := Lib.hid (HW1.out.below (HB6.out.mono hB))
    have G2 := Lib.hid (HW2.out.below (HB6.out.mono hB))
    have G3 := Lib.hid (H3.out.below HG.out)
    have G4 := Lib.hid (H4.out.below HG.out)
    have GI := Lib.hid (((HL1.out.below HB5.out).more hz5).below HG.out)
    have hsz : (w5.alloc (.cells #[.int .i64 gbd, .int .i64 gn1, .int .i64 gm, .slice B1 gws1.length d1, .int .i64 gn2, .slice B2 gws2.length d2] 45)).heap.size = w5.heap.size + 1 := by simp
    clear H3 H4 HB5 HB1 HK1 HK5 HG HMk HW1 HW2 HA HBk HAll HL1 k10
    generalize (w5.alloc (.cells #[.int .i64 gbd, .int .i64 gn1, .int .i64 gm, .slice B1 gws1.length d1, .int .i64 gn2, .slice B2 gws2.length d2] 45)) = w6 at *
    have hw6 : w5.heap.size ≤ w6.heap.size := by omega
    have x0 := HX.out.cell 0
    have x1 := HX.out.cell 1
    have x2 := HX.out.cell 2
    have x3 := HX.out.cell 3
    have x4 := HX.out.cell 4
    have x5 := HX.out.cell 5
    have y0 := HY.out.cell 0
    have y1 := HY.out.cell 1
    have y2 := HY.out.cell 2
    have y3 := HY.out.cell 3
    have y4 := HY.out.cell 4
    have y5 := HY.out.cell 5
    by_cases q1 : gc = 0
    · have r1 : (gc == 0) = true := by simp [q1]
      by_cases q2 : gm = m1
      · have r2 : (m1 == gm) = true := by simp [q2]
        have HS1 := Lib.hid fun Wd (hW : Drawn w6 Wd) => equalWords_any (.slice A1 ws1.length c1) (.slice B1 gws1.length d1) ws1 gws1 (eqW ws1 gws1) Wd B w5.heap.size (G1.out.below (hW.below _)) (G3.out.below (hW.below _)) rfl
        by_cases q4 : gws1 = ws1
        · have HS2 := Lib.hid fun Wd (hW : Drawn w6 Wd) => sameBits_any (.slice A2 ws2.length c2) (.slice B2 gws2.length d2) n2 gn2 ws2 gws2 (eqB n2 ws2 gn2 gws2) Wd B w5.heap.size (by have := hW.size; omega) (by have := hW.size; omega) (G2.out.below (hW.below _)) (G4.out.below (hW.below _)) rfl
          rw [eqW_of q4.symm] at HS1
          have hfin : Hid (ok = eqB n2 ws2 gn2 gws2) := Lib.hid (by
            by_cases q5 : gn2 = n2 ∧ gws2 = ws2
            · rw [eqB_yes q5.1.symm q5.2.symm]
              exact HOk.out.2 ⟨by simp, q1, q2, q4, q5.1, q5.2⟩
            · rw [eqB_no fun e => q5 ⟨e.1.symm, e.2.symm⟩]
              cases hk : ok with
              | false => rfl
              | true => exact absurd ((HOk.out.1 hk).2.2.2.2) q5)
          clear HOk q1 q2 q4 HR
          generalize eqB n2 ws2 gn2 gws2 = bb at *
          cases bb
          all_goals
            go_wp2_with (first
              | (go_at_call 79; refine (HS1.out _ (Drawn.refl _)).mono ?_; rintro e w7 ⟨rfl, ⟨nd, rfl⟩⟩; have x4' := (HX.out.drewN nd).cell 4; have x5' := (HX.out.drewN nd).cell 5; have y4' := (HY.out.drewN nd).cell 4; have y5' := (HY.out.drewN nd).cell 5)
              | (go_at_call 80; refine (HS2.out _ ((Drawn.refl _).drewN nd)).mono ?_; rintro e w8 ⟨rfl, hb8⟩; have HB8 := Lib.hid hb8; clear hb8))
            go_ret2
            exact givesRead_is hfin.out ((((GI.out.more hw6).below (below_drewN (Below.refl _ _) nd)).below HB8.out).more HB8.out.size) ((below_drewN HB6.out nd).trans (HB8.out.mono (below_drewN HB6.out nd).size))
        · have hno : Hid (ok = false) := Lib.hid (by
            cases hk : ok with
            | false => rfl
            | true => exact absurd (HOk.out.1 hk).2.2.2.1 q4)
          rw [eqW_not fun e => q4 e.symm] at HS1
          clear HOk q1 q2 q4 HR
          go_wp2_with (go_at_call 79; refine (HS1.out _ (Drawn.refl _)).mono ?_; rintro e w7 ⟨rfl, ⟨nd, rfl⟩⟩)
          go_ret2
          exact givesRead_is hno.out ((GI.out.more hw6).below (below_drewN (Below.refl _ _) nd)) (below_drewN HB6.out nd)
      · have hno : Hid (ok = false) := Lib.hid (by
          cases hk : ok with
          | false => rfl
          | true => exact absurd (HOk.out.1 hk).2.2.1 q2)
        have r2 : (m1 == gm) = false := by simp; exact fun e => q2 e.symm
        clear HOk q1 q2 HR
        go_wp2_with fail
        go_ret2
        exact givesRead_is hno.out (GI.out.more hw6) HB6.out
    · have hno : Hid (ok = false) := Lib.hid (by
        cases hk : ok with
        | false => rfl
        | true => exact absurd (HOk.out.1 hk).2.1 q1)
      have r1 : (gc == 0) = false := by simpa using q1
      clear HOk q1 HR
      go_wp2_with fail
      go_ret2
      exact givesRead_is hno.out (GI.out.more hw6) HB6.out
theorem givesRead_none {l m : List Int} {w w' : World} {e : Ending} (h : GivesRead l false w e w') : GivesRead m false w e w' := by
  obtain ⟨A, c, l', h1, h2, _, h4⟩ := h
  exact ⟨A, c, l', h1, h2, (fun h => by cases h), h4⟩
/-- Reading, whatever the parts are. -/
theorem fanoRead_any (v : Value) (bd n1 m1 : Int) (ws1 : List Nat) (n2 : Int) (ws2 : List Nat) (ok : Bool) (gbd gn1 gm : Int) (gws1 : List Nat) (gn2 : Int) (gws2 : List Nat) (gc : Int) (w : World) (B : Nat) (hB : B ≤ w.heap.size) (h : IsFano w B v bd n1 m1 ws1 n2 ws2)
    (hR : FanoR bd (listF m1 ws1 n2 ws2) gbd gn1 gm gws1 gn2 gws2 gc (fun W l n m ws => ∃ c, PackR W l n m ws c)) (hok : ok = true ↔ GoodF n1 m1 ws1 n2 ws2 gm gws1 gn2 gws2 gc) :
    Calls Try.prog 63 #[v] w (GivesRead (listF m1 ws1 n2 ws2) ok w) := by
  obtain ⟨s1, s2, rfl, hbd, i1, i2, i3, h1, h2⟩ := id h
  obtain ⟨A1, c1, rfl, _⟩ := id h1
  obtain ⟨A2, c2, rfl, _⟩ := id h2
  have hlen : (listF m1 ws1 n2 ws2).length = cntB ws2 true n2.toNat := by unfold listF; exact readTo_length _ _ _ _
  by_cases hk : (cntB ws2 true n2.toNat : Int) = n1 ∧ mayPacked n1 m1 ws1 = true ∧ mayBits n2 ws2 = true
  · obtain ⟨hk, hm1, hm2⟩ := hk
    have ht : (listF m1 ws1 n2 ws2).take n1.toNat = listF m1 ws1 n2 ws2 := List.take_of_length_le (by rw [hlen]; omega)
    refine fanoRead_made bd n1 m1 A1 A2 c1 c2 ws1 n2 ws2 _ true ok gbd gn1 gm gws1 gn2 gws2 gc w B hB hbd h1 h2 (fun Wd hW => ?_) hR ?_
    · have := fanoAll_any _ bd n1 m1 ws1 n2 ws2 true Wd B (Nat.le_trans hB hW.size) (h.below (hW.mono hB)) ⟨fun _ => ⟨hm1, hm2, by omega⟩, fun _ => rfl⟩
      rwa [ht] at this
    · rw [hok, goodF_iff]
      exact ⟨fun g => ⟨rfl, g.2.2.2.1, g.2.2.2.2.1, g.2.2.2.2.2.1, g.2.2.2.2.2.2.1, g.2.2.2.2.2.2.2⟩, fun g => ⟨hm1, hm2, hk, g.2.1, g.2.2.1, g.2.2.2.1, g.2.2.2.2.1, g.2.2.2.2.2⟩⟩
  · have hno : ok = false := by
      cases e : ok with
      | false => rfl
      | true =>
        have g := goodF_iff.1 (hok.1 e)
        exact absurd ⟨g.2.2.1, g.1, g.2.1⟩ hk
    subst hno
    obtain ⟨gbd', gn1', gm', gws1', gn2', gws2', gc', hR'⟩ := FanoR.ex bd ((listF m1 ws1 n2 ws2).take n1.toNat)
    obtain ⟨okA, hA⟩ : ∃ okA : Bool, okA = true ↔ mayPacked n1 m1 ws1 = true ∧ mayBits n2 ws2 = true ∧ n1 ≤ (cntB ws2 true n2.toNat : Int) := by
      classical
      exact ⟨decide (mayPacked n1 m1 ws1 = true ∧ mayBits n2 ws2 = true ∧ n1 ≤ (cntB ws2 true n2.toNat : Int)), by simp⟩
    refine (fanoRead_made bd n1 m1 A1 A2 c1 c2 ws1 n2 ws2 _ okA false gbd' gn1' gm' gws1' gn2' gws2' gc' w B hB hbd h1 h2 (fun Wd hW => fanoAll_any _ bd n1 m1 ws1 n2 ws2 okA Wd B (Nat.le_trans hB hW.size) (h.below (hW.mono hB)) hA) hR' ?_).mono fun e w' g => givesRead_none g
    refine ⟨(fun e => by cases e), fun g => ?_⟩
    obtain ⟨g0, rfl, g2, g3, rfl, rfl⟩ := g
    obtain ⟨a1, a2, a3⟩ := hA.1 g0
    have hmk := made_marks hR'
    rw [List.length_take, hlen] at hmk
    obtain ⟨p1, _⟩ := packed_facts a1
    exact absurd ⟨by omega, a1, a2⟩ hk
end Go.Proofs.Yteblkbgcnoepnaa
