/-
  Contract of lis.Rise: a rise, as long as there are piles. Conditions: the list can be read as data.
-/
import Derived.Test.YtgfddolchachkaaMLisRises10
import Derived.Test.YtgfddolchachkaaMLisRises12
import Derived.Test.YtgfddolchachkaaMLisRises13
import Derived.Test.YtgfddolchachkaaMLisRises17
import Derived.RangeFuncCalls
import Derived.Test.YtgfddolchachkaaMLisRises00
namespace Go.Proofs.Ytgfddolchachkaa
open Go Go.RowKit Go.Dam Go.Shelf Go.Proofs
set_option linter.unusedVariables false
attribute [local go_sem] Oper.semAt_some
set_option maxHeartbeats 400000 in
theorem riseClos_any (i n cap g a1 a2 : Nat) (x last : Int) (w : World) (hi : i < n) (hn : n ≤ 1000) (h1 : w.cell? ⟨a1, 0, none⟩ = some (.slice (some ⟨g, 0, none⟩) n cap)) (h2 : w.cell? ⟨a2, 0, none⟩ = some (.int .i64 last)) (h3 : w.cell? ⟨g, i, none⟩ = some (.int .i64 x)) :
    Calls Try.prog 91 #[.int .i64 i, .pointer (some ⟨a1, 0, none⟩), .pointer (some ⟨a2, 0, none⟩)] w fun e w' => e = .returned (.bool (decide (last < x))) ∧ Drawn w w' := by
  go_enter Try.func91, Try.ntmps91
  go_wp2_with fail
  go_quiet (fail)
  go_wp2
  go_ret
  exact ⟨rfl, ⟨_, rfl⟩⟩
/-- What Rise returns. -/
def GivesRise (l : List Int) (w : World) (e : Ending) (w' : World) : Prop :=
  ∃ v xs c, e = .returned (.tuple #[v, .int .i64 c]) ∧ IsInts .i64 w' w'.heap.size v xs ∧ Below w.heap.size w w' ∧ ((300 < l.length ∧ xs = [] ∧ c = 1) ∨ (l.length ≤ 300 ∧ c = 0 ∧ ∃ ps o, Piles (fun k => l.getD k 0) l.length ps ∧ xs = toInts o ∧ RiseIs (fun k => l.getD k 0) l.length ps.length o))
set_option maxRecDepth 100000 in
set_option maxHeartbeats 8000000 in
theorem lisRise_any (v : Value) (l : List Int) (w : World) (B : Nat) (hB : B ≤ w.heap.size) (h : IsInts .i64 w B v l) :
    Calls Try.prog 40 #[v] w (GivesRise l w) := by
  have HP := fun h1 => piles_any v l w B hB h h1
  obtain ⟨A, c, rfl, hc, hm, hn, hr, hw⟩ := h
  by_cases h1 : 300 < l.length
  · clear hr hw HP
    go_enter Try.func40, Try.ntmps40
    go_wp2_with fail
    go_ret2
    exact ⟨_, _, _, rfl, isInts_nil _ _ _, Below.refl _ _, .inl ⟨h1, rfl, rfl⟩⟩
  have HP := Lib.hid (HP (by omega))
  have hl300 : l.length ≤ 300 := by omega
  have t300 : decide ((300 : Int) < (l.length : Int)) = false := decide_eq_false (by omega)
  clear hr hw h1
  obtain ⟨i0, hi, hz0, hz1, hz2⟩ := El.info (P := Try.prog) el_int
  refine (callsIn_wide (n := 6)).1 ?_
  refine callsIn_of_wp_marks Try.func40 rfl trivial ?_ rfl
  simp only [Try.ntmps40, List.size_toArray, List.length_cons, List.length_nil, Nat.reduceAdd, Nat.reduceSub, Array.replicate_succ, Array.replicate_zero, List.push_toArray, List.append_toArray, List.nil_append, List.cons_append]
  gi_wp2_with (first
    | (refine ⟨trivial, ?_⟩; gi_at_call 88; refine (callsIn_wide.2 HP.out).mono ?_; rintro e w1 ⟨v1, u1, ps, vs, rfl, hp, hpl, hout, hrows, hi1, hb1⟩; have HI := Lib.hid hi1; obtain ⟨A1, c1, rfl⟩ := own_shape hout; have HPs := Lib.hid (And.intro hp hpl); have HOut := Lib.hid hout; have HRows := Lib.hid hrows; have HB1 := Lib.hid hb1; clear hp hout hrows hi1 hpl)
    | (refine ⟨trivial, ?_⟩; gi_at_call 89; refine (seqBackward Fence.wide _ trivial rfl _ _ _ _).mono ?_; rintro e w3 ⟨rfl, rfl⟩))
  obtain ⟨F, hF⟩ : ∃ F : Nat → Int, F = fun k => l.getD k 0 := ⟨_, rfl⟩
  have hz1w := HB1.out.size
  obtain ⟨b, hb⟩ : ∃ b, 0 < ps.length → A1 = some ⟨b, 0, none⟩ ∧ b < w1.heap.size := by
    by_cases h0 : 0 < ps.length
    · obtain ⟨g, cap, e1, e2, e3⟩ := HOut.out.form h0
      injection e1 with e1 _ _
      exact ⟨g, fun _ => ⟨e1, e3⟩⟩
    · exact ⟨0, fun h => absurd h h0⟩
  have hvl : vs.length = ps.length := by have := HRows.out.1.1; rw [toRows_length] at this; exact this
  have HPv : Hid (∀ j, j < ps.length → ∃ gp cp np, Hid (np = (ps.getD j []).length) ∧ vs.getD j undef = .slice (some ⟨gp, 0, none⟩) np cp ∧ gp < w1.heap.size ∧ np ≤ 300 ∧ 0 < np ∧ np ≤ cp ∧ ∀ u, u < np → w1.cell? ⟨gp, u, none⟩ = some (.int .i64 (((ps.getD j []).getD u 0 : Nat) : Int))) := Lib.hid fun j hj => by
    have hr := HRows.out.1.2 j (by rw [toRows_length]; exact hj)
    rw [toRows_at, toInts_length] at hr
    have hne := HPs.out.1.ne j hj
    have hle := HPs.out.1.len_le hj
    obtain ⟨p, hp⟩ : ∃ p, p = ps.getD j [] := ⟨_, rfl⟩
    rw [← hp] at hr hne hle ⊢
    have hpos : 0 < p.length := List.length_pos_iff.2 hne
    obtain ⟨gp, cp, e1, e2, e3⟩ := hr.form hpos
    rw [e1] at hr
    have hcp := own_cap hr
    refine ⟨gp, cp, p.length, Lib.hid rfl, e1, e3, by omega, hpos, hcp, fun u hu => ?_⟩
    rw [hr.cellAt u (by omega)]
    simp [toInts, List.getElem?_eq_getElem hu]
  have hcap := own_cap HOut.out
  obtain ⟨m, hmm⟩ : ∃ m, m = ps.length := ⟨_, rfl⟩
  have hB3 : Below w1.heap.size w1 ((w1.alloc (.cells #[.slice none 0 0] 22)).alloc (.cells #[.slice A1 ps.length c1] 25)) := ((Below.refl _ _).alloc (Nat.le_refl _) _).alloc (by simp) _
  have bx0 : Boxed ((w1.alloc (.cells #[.slice none 0 0] 22)).alloc (.cells #[.slice A1 ps.length c1] 25)) w1.heap.size 22 (.slice none 0 0) := (Boxed.new w1 _ _).alloc _
  have hs0 : ((w1.alloc (.cells #[.slice none 0 0] 22)).alloc (.cells #[.slice A1 ps.length c1] 25)).cell? ⟨w1.heap.size + 1, 0, none⟩ = some (.slice A1 ps.length c1) := by
    have := (Boxed.new (w1.alloc (.cells #[.slice none 0 0] 22)) 25 (.slice A1 ps.length c1)).cell
    rw [World.size_alloc] at this
    exact this
  have hz3 : ((w1.alloc (.cells #[.slice none 0 0] 22)).alloc (.cells #[.slice A1 ps.length c1] 25)).heap.size = w1.heap.size + 1 + 1 := by simp
  have hcs0 : ∀ j, j < ps.length → ((w1.alloc (.cells #[.slice none 0 0] 22)).alloc (.cells #[.slice A1 ps.length c1] 25)).cell? ⟨b, j, none⟩ = some (vs.getD j undef) := fun j hj => by
    obtain ⟨rfl, hbl⟩ := hb (by omega)
    rw [hB3.cell (p := ⟨b, j, none⟩) hbl, HOut.out.cellAt j (by omega), List.getD_eq_getElem?_getD, List.getElem?_eq_getElem (by omega)]; rfl
  generalize (w1.alloc (.cells #[.slice none 0 0] 22)).alloc (.cells #[.slice A1 ps.length c1] 25) = w3 at *
  refine wpIn_rangeFunc_steps (n := 6) rfl (by omega) (gf := 134) (lb := #[.pointer (some ⟨w1.heap.size + 1, 0, none⟩)]) rfl trivial (enters_of Try.func134 (by kernel_rfl) rfl)
    (seqBack_steps Fence.wide _ trivial rfl (by omega) (w1.heap.size + 1) b (w1.heap.size + 1 + 1) w1.heap.size ps.length c1 A1 vs (by have := HPs.out.2; omega) w3 (by omega) (by omega) (by omega) hcap hs0 (fun h => ⟨(hb h).1, by have := (hb h).2; omega, by have := (hb h).2; omega⟩) hcs0)
    (by omega) (Below.refl _ _) (fun _ => rfl)
    (fun k W => (∃ v o, Boxed W w1.heap.size 22 v ∧ W.ownsRow (w1.heap.size + 1 + 1) 3 1 v k ((toInts o).map (Value.int .i64)) ∧ RiseSt (fun k => l.getD k 0) ps k o) ∧ BelowBut (w1.heap.size + 1 + 1) w1.heap.size w3 W)
    ?hI ?h0
    (fun a' k W => (∃ Bx, w1.heap.size + 1 + 1 ≤ Bx ∧ Boxed W Bx 22 (vs.getD (ps.length - 1 - k) undef) ∧ a' = { tmps := #[.slice A l.length c, undef, .slice none 0 0, .int .i64 0, .slice A1 ps.length c1, u1, .pointer (some ⟨w1.heap.size, 0, none⟩), undef, .pointer (some ⟨Bx, 0, none⟩), undef, undef, .slice A l.length c, .int .i64 l.length, .bool false, .tuple #[.slice A1 ps.length c1, u1], .slice A l.length c, .tuple #[.slice A1 ps.length c1, u1], .slice A1 ps.length c1, u1, .slice A1 ps.length c1, .func (.func 134) #[] #[.pointer (some ⟨w1.heap.size + 1, 0, none⟩)], .int .i64 ((ps.length - 1 - k : Nat) : Int), vs.getD (ps.length - 1 - k) undef, undef, undef, undef, undef, undef, undef, undef, undef, undef, undef, undef, undef, undef, undef, undef, undef, undef, undef, undef, undef, undef, undef, undef, undef, undef, undef, undef, undef, undef, undef], defers := [] }) ∧ (∃ v o, Boxed W w1.heap.size 22 v ∧ W.ownsRow (w1.heap.size + 1 + 1) 3 1 v k ((toInts o).map (Value.int .i64)) ∧ RiseSt (fun k => l.getD k 0) ps k o) ∧ BelowBut (w1.heap.size + 1 + 1) w1.heap.size w3 W)
    ?hI' ?assign ?body ?done
  case h0 => exact ⟨⟨_, [], bx0, by rw [toInts_nil]; exact World.ownsRow_nil _ _ _ _, RiseSt.zero _ _⟩, BelowBut.refl _ _ _⟩
  case hI =>
    refine OwnFrom.and (Own.from (fun s X Y row ⟨v, o, hv, hr, hG⟩ hg hrow => ?_) _) (BelowBut.own (by omega) (by omega))
    obtain ⟨v', q1, q2, q3⟩ := holdsRow_own (β := Nat × List Nat) (w1.heap.size + 1 + 1) w1.heap.size 22 3 1 (fun s => s.1) (fun s => (toInts s.2).map (Value.int .i64)) (fun s v => RiseSt (fun k => l.getD k 0) ps s.1 s.2) (s, o) X Y row ⟨v, hv, hr, hG⟩ hg hrow
    exact ⟨v', o, q1, q2, q3⟩
  case hI' =>
    intro a'
    refine OwnFrom.and (Own.from (fun s X Y row ⟨Bx, h1, h2, h3⟩ hg hrow => ?_) _) (OwnFrom.and (Own.from (fun s X Y row ⟨v, o, hv, hr, hG⟩ hg hrow => ?_) _) (BelowBut.own (by omega) (by omega)))
    · refine ⟨Bx, h1, h2.kept hg (fun e' => ?_), h3⟩
      obtain ⟨o, ho, hc⟩ := hrow Bx e'.symm
      rw [show X.heap[Bx]? = _ from h2] at ho; cases ho; cases hc
    · obtain ⟨v', q1, q2, q3⟩ := holdsRow_own (β := Nat × List Nat) (w1.heap.size + 1 + 1) w1.heap.size 22 3 1 (fun s => s.1) (fun s => (toInts s.2).map (Value.int .i64)) (fun s v => RiseSt (fun k => l.getD k 0) ps s.1 s.2) (s, o) X Y row ⟨v, hv, hr, hG⟩ hg hrow
      exact ⟨v', o, q1, q2, q3⟩
  case assign =>
    rintro l0 k W K hk ⟨⟨v, o, hv, hrow, hst⟩, hbb⟩ hK
    obtain ⟨gp, cp, np, _, ep, _⟩ := HPv.out (ps.length - 1 - k) (by omega)
    unfold backEnc
    have hzW := hbb.size
    rw [ep]
    gi_wp2
    refine hK _ _ ((KeepsOthers.alloc _ _).from _) ((BelowBut.refl _ _ _).alloc (by omega) _) ⟨⟨W.heap.size, by omega, by rw [ep]; exact Boxed.new W _ _, ?_⟩, ⟨v, o, hv.alloc _, hrow.alloc _, hst⟩, hbb.alloc (by omega) _⟩
    rw [ep]
  case body =>
    rintro l0 k a' W hk ⟨⟨Bx, hBx, hbx, rfl⟩, ⟨v, o, hv, hrow, hst⟩, hbb⟩
    obtain ⟨gp, cp, np, hnp, ep, g1, g2, g3, g4, g5⟩ := HPv.out (ps.length - 1 - k) (by omega)
    have hzW := hbb.size
    rw [ep] at hbx ⊢
    obtain ⟨A2, c2, rfl⟩ := own_shape hrow
    have hc0 := hv.cell
    have hcx := hbx.cell
    have G5 : Hid (∀ u, u < np → W.cell? ⟨gp, u, none⟩ = some (.int .i64 (((ps.getD (ps.length - 1 - k) []).getD u 0 : Nat) : Int))) := Lib.hid fun u hu => (hbb.cell (p := ⟨gp, u, none⟩) (by show gp < _; omega) (by show gp ≠ _; omega)).trans ((hB3.cell (p := ⟨gp, u, none⟩) g1).trans (g5 u hu))
    clear g5
    rcases Nat.eq_zero_or_pos k with rfl | hkp
    · have q0 := G5.out 0 g3
      obtain ⟨x, hx⟩ : ∃ x, x = (ps.getD (ps.length - 1 - 0) []).getD 0 0 := ⟨_, rfl⟩
      rw [← hx] at q0
      obtain rfl : o = [] := List.length_eq_zero_iff.1 hst.len
      have HX1 : Hid (RiseSt (fun k => l.getD k 0) ps 1 [x]) := Lib.hid (RiseSt.one (by
        have e : ∀ (q : List Nat), 0 < q.length → q.getD 0 0 ∈ q := fun q hq => by
          rw [List.getD_eq_getElem?_getD, List.getElem?_eq_getElem hq]; exact List.getElem_mem hq
        rw [hx]
        exact e _ (by have h := hnp.out; rw [Nat.sub_zero] at h; omega)))
      clear hx hst
      have t0 : ((0 : Int) == 0) = true := rfl
      gi_wp2_with fail
      refine wpIn_region_any (by kernel_rfl) ?_
      change wpAnyIn _ _ _ _ _ _ _ _ _ (World.drew _)
      have hrow1 : W.drew.ownsRow (w1.heap.size + 1 + 1) 3 1 (.slice A2 0 c2) 0 ((toInts []).map (Value.int .i64)) := hrow
      have hv1 : Boxed W.drew w1.heap.size 22 (.slice A2 0 c2) := hv
      have hca := fun ob => (hv.alloc ob).cell
      have KD : KeepsOthers W W.drew := KeepsOthers.drew W
      have BD : BelowBut (w1.heap.size + 1 + 1) w1.heap.size W W.drew := ⟨rfl, rfl, rfl, Nat.le_refl _, fun _ _ _ => rfl⟩
      refine wpAnyIn_ready (rs := [0, 1]) (by kernel_rfl) (by simp) (AllReadyIn.cons rfl (fun K hK => ?_) (AllReadyIn.cons rfl (fun K hK => ?_) AllReadyIn.nil))
      · go_simp
        refine hK _ _ ?_; clear hK K
        refine wpAnyIn_ready (rs := [1]) (by kernel_rfl) (by simp) (AllReadyIn.cons rfl (fun K hK => ?_) AllReadyIn.nil)
        go_simp
        refine hK _ _ ?_; clear hK K
        refine wpAnyIn_ready (rs := [2]) (by kernel_rfl) (by simp) (AllReadyIn.cons rfl (fun K hK => ?_) AllReadyIn.nil)
        go_simp
        refine hK _ _ ?_; clear hK K
        refine wpAnyIn_ready (rs := [3]) (by kernel_rfl) (by simp) (AllReadyIn.cons rfl (fun K hK => ?_) AllReadyIn.nil)
        go_simp
        refine hK _ _ ?_; clear hK K
        refine wpAnyIn_ready (rs := [4]) (by kernel_rfl) (by simp) (AllReadyIn.cons rfl (fun K hK => ?_) AllReadyIn.nil)
        go_simp
        refine hK _ _ ?_; clear hK K
        refine wpAnyIn_ready (rs := [5]) (by kernel_rfl) (by simp) (AllReadyIn.cons rfl (fun K hK => ?_) AllReadyIn.nil)
        refine stepIn_append el_int rfl (.tmp 26) (.tmp 30) rfl (w1.heap.size + 1 + 1) _ 0 _ (hrow1.alloc _) rfl ⟨W.heap.size, 0, none⟩ 1 1 [.int .i64 x] rfl rfl (cell_one_new _ _ _) (by simp [Value.oneCell']) (by omega) (by omega) (by simp; omega) ?_
        intro v' w4 hown' hgrow
        obtain ⟨g', cap', rfl⟩ := ownsRow_succ hown'
        obtain ⟨hv4, hv5, hr5, hk5, hb5⟩ := boxed_push hv1 (by decide) hrow1 (by simp; omega) hown' hgrow
        have hc4 := hv4.cell
        have hf4 := hv4.frozen
        refine hK _ _ ?_; clear hK K
        refine wpAnyIn_ready (rs := [6]) (by kernel_rfl) (by simp) (AllReadyIn.cons rfl (fun K hK => ?_) AllReadyIn.nil)
        go_simp
        refine hK _ _ ?_; clear hK K
        refine wpAnyIn_done (by kernel_rfl) ?_ _
        gi_wp2
        exact ⟨(KD.trans hk5).from _, BD.trans hb5, ⟨_, [x], hv5, by simpa [toInts] using hr5, HX1.out⟩, (hbb.trans BD).trans hb5⟩
      · go_simp
        refine hK _ _ ?_; clear hK K
        refine wpAnyIn_ready (rs := [0, 2]) (by kernel_rfl) (by simp) (AllReadyIn.cons rfl (fun K hK => ?_) (AllReadyIn.cons rfl (fun K hK => ?_) AllReadyIn.nil))
        · go_simp
          refine hK _ _ ?_; clear hK K
          refine wpAnyIn_ready (rs := [2]) (by kernel_rfl) (by simp) (AllReadyIn.cons rfl (fun K hK => ?_) AllReadyIn.nil)
          go_simp
          refine hK _ _ ?_; clear hK K
          refine wpAnyIn_ready (rs := [3]) (by kernel_rfl) (by simp) (AllReadyIn.cons rfl (fun K hK => ?_) AllReadyIn.nil)
          go_simp
          refine hK _ _ ?_; clear hK K
          refine wpAnyIn_ready (rs := [4]) (by kernel_rfl) (by simp) (AllReadyIn.cons rfl (fun K hK => ?_) AllReadyIn.nil)
          go_simp
          refine hK _ _ ?_; clear hK K
          refine wpAnyIn_ready (rs := [5]) (by kernel_rfl) (by simp) (AllReadyIn.cons rfl (fun K hK => ?_) AllReadyIn.nil)
          refine stepIn_append el_int rfl (.tmp 26) (.tmp 30) rfl (w1.heap.size + 1 + 1) _ 0 _ (hrow1.alloc _) rfl ⟨W.heap.size, 0, none⟩ 1 1 [.int .i64 x] rfl rfl (cell_one_new _ _ _) (by simp [Value.oneCell']) (by omega) (by omega) (by simp; omega) ?_
          intro v' w4 hown' hgrow
          obtain ⟨g', cap', rfl⟩ := ownsRow_succ hown'
          obtain ⟨hv4, hv5, hr5, hk5, hb5⟩ := boxed_push hv1 (by decide) hrow1 (by simp; omega) hown' hgrow
          have hc4 := hv4.cell
          have hf4 := hv4.frozen
          refine hK _ _ ?_; clear hK K
          refine wpAnyIn_ready (rs := [6]) (by kernel_rfl) (by simp) (AllReadyIn.cons rfl (fun K hK => ?_) AllReadyIn.nil)
          go_simp
          refine hK _ _ ?_; clear hK K
          refine wpAnyIn_done (by kernel_rfl) ?_ _
          gi_wp2
          exact ⟨(KD.trans hk5).from _, BD.trans hb5, ⟨_, [x], hv5, by simpa [toInts] using hr5, HX1.out⟩, (hbb.trans BD).trans hb5⟩
        · go_simp
          refine hK _ _ ?_; clear hK K
          refine wpAnyIn_ready (rs := [0, 3]) (by kernel_rfl) (by simp) (AllReadyIn.cons rfl (fun K hK => ?_) (AllReadyIn.cons rfl (fun K hK => ?_) AllReadyIn.nil))
          · go_simp
            refine hK _ _ ?_; clear hK K
            refine wpAnyIn_ready (rs := [3]) (by kernel_rfl) (by simp) (AllReadyIn.cons rfl (fun K hK => ?_) AllReadyIn.nil)
            go_simp
            refine hK _ _ ?_; clear hK K
            refine wpAnyIn_ready (rs := [4]) (by kernel_rfl) (by simp) (AllReadyIn.cons rfl (fun K hK => ?_) AllReadyIn.nil)
            go_simp
            refine hK _ _ ?_; clear hK K
            refine wpAnyIn_ready (rs := [5]) (by kernel_rfl) (by simp) (AllReadyIn.cons rfl (fun K hK => ?_) AllReadyIn.nil)
            refine stepIn_append el_int rfl (.tmp 26) (.tmp 30) rfl (w1.heap.size + 1 + 1) _ 0 _ (hrow1.alloc _) rfl ⟨W.heap.size, 0, none⟩ 1 1 [.int .i64 x] rfl rfl (cell_one_new _ _ _) (by simp [Value.oneCell']) (by omega) (by omega) (by simp; omega) ?_
            intro v' w4 hown' hgrow
            obtain ⟨g', cap', rfl⟩ := ownsRow_succ hown'
            obtain ⟨hv4, hv5, hr5, hk5, hb5⟩ := boxed_push hv1 (by decide) hrow1 (by simp; omega) hown' hgrow
            have hc4 := hv4.cell
            have hf4 := hv4.frozen
            refine hK _ _ ?_; clear hK K
            refine wpAnyIn_ready (rs := [6]) (by kernel_rfl) (by simp) (AllReadyIn.cons rfl (fun K hK => ?_) AllReadyIn.nil)
            go_simp
            refine hK _ _ ?_; clear hK K
            refine wpAnyIn_done (by kernel_rfl) ?_ _
            gi_wp2
            exact ⟨(KD.trans hk5).from _, BD.trans hb5, ⟨_, [x], hv5, by simpa [toInts] using hr5, HX1.out⟩, (hbb.trans BD).trans hb5⟩
          · go_simp
            refine hK _ _ ?_; clear hK K
            refine wpAnyIn_ready (rs := [0, 4]) (by kernel_rfl) (by simp) (AllReadyIn.cons rfl (fun K hK => ?_) (AllReadyIn.cons rfl (fun K hK => ?_) AllReadyIn.nil))
            · go_simp
              refine hK _ _ ?_; clear hK K
              refine wpAnyIn_ready (rs := [4]) (by kernel_rfl) (by simp) (AllReadyIn.cons rfl (fun K hK => ?_) AllReadyIn.nil)
              go_simp
              refine hK _ _ ?_; clear hK K
              refine wpAnyIn_ready (rs := [5]) (by kernel_rfl) (by simp) (AllReadyIn.cons rfl (fun K hK => ?_) AllReadyIn.nil)
              refine stepIn_append el_int rfl (.tmp 26) (.tmp 30) rfl (w1.heap.size + 1 + 1) _ 0 _ (hrow1.alloc _) rfl ⟨W.heap.size, 0, none⟩ 1 1 [.int .i64 x] rfl rfl (cell_one_new _ _ _) (by simp [Value.oneCell']) (by omega) (by omega) (by simp; omega) ?_
              intro v' w4 hown' hgrow
              obtain ⟨g', cap', rfl⟩ := ownsRow_succ hown'
              obtain ⟨hv4, hv5, hr5, hk5, hb5⟩ := boxed_push hv1 (by decide) hrow1 (by simp; omega) hown' hgrow
              have hc4 := hv4.cell
              have hf4 := hv4.frozen
              refine hK _ _ ?_; clear hK K
              refine wpAnyIn_ready (rs := [6]) (by kernel_rfl) (by simp) (AllReadyIn.cons rfl (fun K hK => ?_) AllReadyIn.nil)
              go_simp
              refine hK _ _ ?_; clear hK K
              refine wpAnyIn_done (by kernel_rfl) ?_ _
              gi_wp2
              exact ⟨(KD.trans hk5).from _, BD.trans hb5, ⟨_, [x], hv5, by simpa [toInts] using hr5, HX1.out⟩, (hbb.trans BD).trans hb5⟩
            · go_simp
              refine hK _ _ ?_; clear hK K
              refine wpAnyIn_ready (rs := [0]) (by kernel_rfl) (by simp) (AllReadyIn.cons rfl (fun K hK => ?_) AllReadyIn.nil)
              go_simp
              refine hK _ _ ?_; clear hK K
              refine wpAnyIn_ready (rs := [5]) (by kernel_rfl) (by simp) (AllReadyIn.cons rfl (fun K hK => ?_) AllReadyIn.nil)
              refine stepIn_append el_int rfl (.tmp 26) (.tmp 30) rfl (w1.heap.size + 1 + 1) _ 0 _ (hrow1.alloc _) rfl ⟨W.heap.size, 0, none⟩ 1 1 [.int .i64 x] rfl rfl (cell_one_new _ _ _) (by simp [Value.oneCell']) (by omega) (by omega) (by simp; omega) ?_
              intro v' w4 hown' hgrow
              obtain ⟨g', cap', rfl⟩ := ownsRow_succ hown'
              obtain ⟨hv4, hv5, hr5, hk5, hb5⟩ := boxed_push hv1 (by decide) hrow1 (by simp; omega) hown' hgrow
              have hc4 := hv4.cell
              have hf4 := hv4.frozen
              refine hK _ _ ?_; clear hK K
              refine wpAnyIn_ready (rs := [6]) (by kernel_rfl) (by simp) (AllReadyIn.cons rfl (fun K hK => ?_) AllReadyIn.nil)
              go_simp
              refine hK _ _ ?_; clear hK K
              refine wpAnyIn_done (by kernel_rfl) ?_ _
              gi_wp2
              exact ⟨(KD.trans hk5).from _, BD.trans hb5, ⟨_, [x], hv5, by simpa [toInts] using hr5, HX1.out⟩, (hbb.trans BD).trans hb5⟩
    · obtain ⟨k, rfl⟩ : ∃ k', k = k' + 1 := ⟨k - 1, by omega⟩
      obtain ⟨g2, cap2, e2, e3, e4⟩ := hrow.form (by omega)
      obtain ⟨rfl, rfl⟩ : A2 = some ⟨g2, 0, none⟩ ∧ c2 = cap2 := by injection e2 with x1 x2 x3; exact ⟨x1, x3⟩
      have hcp2 := own_cap hrow
      have hol := hst.len
      have q1 : W.cell? ⟨g2, k, none⟩ = some (.int .i64 ((o.getD k 0 : Nat) : Int)) := by
        rw [hrow.cellAt k (by omega)]
        simp [toInts, List.getElem?_eq_getElem (show k < o.length by omega)]
      obtain ⟨last, hlast⟩ : ∃ x, x = o.getD k 0 := ⟨_, rfl⟩
      rw [← hlast] at q1
      have ej : ps.length - 1 - k = ps.length - 1 - (k + 1) + 1 := by omega
      obtain ⟨j, hj⟩ : ∃ j, j = ps.length - 1 - (k + 1) := ⟨_, rfl⟩
      have hml : last ∈ ps.getD (j + 1) [] := by have := hst.mem k (by omega); rw [ej, ← hj, ← hlast] at this; exact this
      have hasc : (ps.getD j []).Pairwise fun a b => a < b := (HPs.out.1.asc j (by omega)).imp fun h => h.1
      rw [← hj] at hnp G5 ⊢
      have HLast := Lib.hid (And.intro hlast hml)
      have HSt := Lib.hid hst
      have Hj := Lib.hid hj
      have hlb : last < l.length := by have := (HPs.out.1.mem (j + 1) (by omega) _).1 hml; exact this.1
      have HS := Lib.hid (riseSearch_any np Bx W.heap.size (fun i => decide (last < (ps.getD j []).getD i 0)) (W.alloc (.cells #[.int .i64 (last : Int)] 3)) (by omega)
        (fun i i' h1 h2 h3 => by
          simp only [decide_eq_true_eq] at h3 ⊢
          by_cases e : i = i'
          · subst e; exact h3
          · have := asc_at hasc (show i < i' by omega) (by rw [← hnp.out]; exact h2)
            omega)
        (fun i bb h1 h2 W' hd => by
          rw [← h2]
          have d1 := G5.out i h1
          have := riseClos_any i np cp gp Bx W.heap.size (((ps.getD j []).getD i 0 : Nat) : Int) (last : Int) W' h1 (by omega) ((hd.cell _).trans ((hbx.alloc _).cell)) ((hd.cell _).trans (new_cell rfl)) ((hd.cell _).trans ((World.cell?_alloc_lt _ _ ⟨gp, i, none⟩ (by show gp < _; omega)).trans d1))
          refine this.mono ?_
          rintro e w' ⟨rfl, hd'⟩
          exact ⟨by congr 2; exact decide_eq_decide.2 (by omega), hd'⟩))
      clear hlast hml hasc hst ej hj
      have hzz : w1.heap.size + 1 + 1 ≤ W.heap.size := by omega
      have hxa := fun ob => (hbx.alloc ob).cell
      have hva := fun ob => (hv.alloc ob).cell
      have t0 : (((k : Int) + 1) == 0) = false := beq_eq_false_iff_ne.2 (by omega)
      have w0 : IntKind.i64.wrap (k : Int) = (k : Int) := by rw [IntKind.wrap_i64]; have := HPs.out.2; omega
      have w0' : (k : Int) + 1 - 1 = (k : Int) := by omega
      have k0 : (k : Int) < (k : Int) + 1 := by omega
      gi_wp2_with fail
      refine ⟨trivial, ?_⟩
      gi_at_call 90
      refine (CallsIn.inRound l0 (callsIn_wide.2 HS.out)).mono ?_
      rintro e W5 ⟨i, rfl, hbd, ⟨mm, hmm5⟩⟩
      have HBd := Lib.hid hbd
      clear hbd
      have hz5 : W.heap.size + 1 ≤ W5.heap.size := by rw [← hmm5]; simp [World.drewN]
      have H5v : Boxed W5 w1.heap.size 22 (.slice (some ⟨g2, 0, none⟩) (k + 1) c2) := by rw [← hmm5]; exact hv.alloc _
      have H5x : Boxed W5 Bx 22 (.slice (some ⟨gp, 0, none⟩) np cp) := by rw [← hmm5]; exact hbx.alloc _
      have H5r : W5.ownsRow (w1.heap.size + 1 + 1) 3 1 (.slice (some ⟨g2, 0, none⟩) (k + 1) c2) (k + 1) ((toInts o).map (Value.int .i64)) := by rw [← hmm5]; exact hrow.alloc _
      have HB5 : Hid (BelowBut (w1.heap.size + 1 + 1) w1.heap.size W W5) := Lib.hid (by rw [← hmm5]; exact ((BelowBut.refl _ _ W).alloc hzz _).trans ⟨rfl, rfl, rfl, Nat.le_refl _, fun _ _ _ => rfl⟩)
      have HK5 : Hid (KeepsOthers W W5) := Lib.hid (by rw [← hmm5]; exact (KeepsOthers.alloc W _).trans ⟨Nat.le_refl _, fun _ _ h _ => h⟩)
      have hc5 := H5v.cell
      have hx5 := H5x.cell
      have hj1 : j + 1 < ps.length := by have := Hj.out; omega
      obtain ⟨p1, p2, p3, p4⟩ := rise_pick HPs.out.1 hj1 HLast.out.2 (by rw [← hnp.out]; exact HBd.out)
      obtain ⟨q, rfl⟩ : ∃ q, i = q + 1 := ⟨i - 1, by omega⟩
      rw [Nat.add_sub_cancel] at p2 p3 p4
      have hqn : q < np := by have := HBd.out.1; omega
      have q2 : W5.cell? ⟨gp, q, none⟩ = some (.int .i64 (((ps.getD j []).getD q 0 : Nat) : Int)) := (HB5.out.cell (p := ⟨gp, q, none⟩) (by show gp < _; omega) (by show gp ≠ _; omega)).trans (G5.out q hqn)
      obtain ⟨x, hx⟩ : ∃ x, x = (ps.getD j []).getD q 0 := ⟨_, rfl⟩
      rw [← hx] at q2 p2 p3 p4
      have HX1 : Hid (RiseSt (fun k => l.getD k 0) ps (k + 1 + 1) (o ++ [x])) := Lib.hid (HSt.out.next (by rw [← Hj.out]; exact p2) (by rw [← HLast.out.1]; exact p3) (by rw [← HLast.out.1]; exact p4))
      clear hx p1 p2 p3 p4 q1 HBd
      have e1 : (q : Int) + 1 - 1 = (q : Int) := by omega
      have e5 : IntKind.i64.wrap (q : Int) = (q : Int) := by rw [IntKind.wrap_i64]; omega
      have qn : (q : Int) < (np : Int) := by omega
      have hkk : k + 1 ≤ 300 := by have := HPs.out.2; omega
      gi_wp2_with fail
      refine wpIn_region_any (by kernel_rfl) ?_
      change wpAnyIn _ _ _ _ _ _ _ _ _ (World.drew _)
      have hrow1 : W5.drew.ownsRow (w1.heap.size + 1 + 1) 3 1 (.slice (some ⟨g2, 0, none⟩) (k + 1) c2) (k + 1) ((toInts o).map (Value.int .i64)) := H5r
      have hv1 : Boxed W5.drew w1.heap.size 22 (.slice (some ⟨g2, 0, none⟩) (k + 1) c2) := H5v
      have hca := fun ob => (H5v.alloc ob).cell
      have KD : KeepsOthers W5 W5.drew := KeepsOthers.drew W5
      have BD : BelowBut (w1.heap.size + 1 + 1) w1.heap.size W5 W5.drew := ⟨rfl, rfl, rfl, Nat.le_refl _, fun _ _ _ => rfl⟩
      refine wpAnyIn_ready (rs := [0, 1, 2]) (by kernel_rfl) (by simp) (AllReadyIn.cons rfl (fun K hK => ?_) (AllReadyIn.cons rfl (fun K hK => ?_) (AllReadyIn.cons rfl (fun K hK => ?_) AllReadyIn.nil)))
      · go_simp
        refine hK _ _ ?_; clear hK K
        refine wpAnyIn_ready (rs := [1, 2]) (by kernel_rfl) (by simp) (AllReadyIn.cons rfl (fun K hK => ?_) (AllReadyIn.cons rfl (fun K hK => ?_) AllReadyIn.nil))
        · go_simp
          refine hK _ _ ?_; clear hK K
          refine wpAnyIn_ready (rs := [2]) (by kernel_rfl) (by simp) (AllReadyIn.cons rfl (fun K hK => ?_) AllReadyIn.nil)
          go_simp
          refine hK _ _ ?_; clear hK K
          refine wpAnyIn_ready (rs := [3]) (by kernel_rfl) (by simp) (AllReadyIn.cons rfl (fun K hK => ?_) AllReadyIn.nil)
          go_simp
          refine hK _ _ ?_; clear hK K
          refine wpAnyIn_ready (rs := [4]) (by kernel_rfl) (by simp) (AllReadyIn.cons rfl (fun K hK => ?_) AllReadyIn.nil)
          go_simp
          refine hK _ _ ?_; clear hK K
          refine wpAnyIn_ready (rs := [5]) (by kernel_rfl) (by simp) (AllReadyIn.cons rfl (fun K hK => ?_) AllReadyIn.nil)
          go_simp
          refine hK _ _ ?_; clear hK K
          refine wpAnyIn_ready (rs := [6]) (by kernel_rfl) (by simp) (AllReadyIn.cons rfl (fun K hK => ?_) AllReadyIn.nil)
          go_simp
          refine hK _ _ ?_; clear hK K
          refine wpAnyIn_ready (rs := [7]) (by kernel_rfl) (by simp) (AllReadyIn.cons rfl (fun K hK => ?_) AllReadyIn.nil)
          refine stepIn_append el_int rfl (.tmp 42) (.tmp 48) rfl (w1.heap.size + 1 + 1) _ (k + 1) _ (hrow1.alloc _) rfl ⟨W5.heap.size, 0, none⟩ 1 1 [.int .i64 x] rfl rfl (cell_one_new _ _ _) (by simp [Value.oneCell']) (by omega) (by omega) (by simp; omega) ?_
          intro v' w4 hown' hgrow
          obtain ⟨g', cap', rfl⟩ := ownsRow_succ hown'
          obtain ⟨hv4, hv5, hr5, hk5, hb5⟩ := boxed_push hv1 (by decide) hrow1 (by simp; omega) hown' hgrow
          have hc4 := hv4.cell
          have hf4 := hv4.frozen
          refine hK _ _ ?_; clear hK K
          refine wpAnyIn_ready (rs := [8]) (by kernel_rfl) (by simp) (AllReadyIn.cons rfl (fun K hK => ?_) AllReadyIn.nil)
          go_simp
          refine hK _ _ ?_; clear hK K
          refine wpAnyIn_done (by kernel_rfl) ?_ _
          gi_wp2
          exact ⟨((HK5.out.trans KD).trans hk5).from _, (HB5.out.trans BD).trans hb5, ⟨_, o ++ [x], hv5, by simpa [toInts] using hr5, HX1.out⟩, ((hbb.trans HB5.out).trans BD).trans hb5⟩
        · go_simp
          refine hK _ _ ?_; clear hK K
          refine wpAnyIn_ready (rs := [1, 3]) (by kernel_rfl) (by simp) (AllReadyIn.cons rfl (fun K hK => ?_) (AllReadyIn.cons rfl (fun K hK => ?_) AllReadyIn.nil))
          · go_simp
            refine hK _ _ ?_; clear hK K
            refine wpAnyIn_ready (rs := [3]) (by kernel_rfl) (by simp) (AllReadyIn.cons rfl (fun K hK => ?_) AllReadyIn.nil)
            go_simp
            refine hK _ _ ?_; clear hK K
            refine wpAnyIn_ready (rs := [4]) (by kernel_rfl) (by simp) (AllReadyIn.cons rfl (fun K hK => ?_) AllReadyIn.nil)
            go_simp
            refine hK _ _ ?_; clear hK K
            refine wpAnyIn_ready (rs := [5]) (by kernel_rfl) (by simp) (AllReadyIn.cons rfl (fun K hK => ?_) AllReadyIn.nil)
            go_simp
            refine hK _ _ ?_; clear hK K
            refine wpAnyIn_ready (rs := [6]) (by kernel_rfl) (by simp) (AllReadyIn.cons rfl (fun K hK => ?_) AllReadyIn.nil)
            go_simp
            refine hK _ _ ?_; clear hK K
            refine wpAnyIn_ready (rs := [7]) (by kernel_rfl) (by simp) (AllReadyIn.cons rfl (fun K hK => ?_) AllReadyIn.nil)
            refine stepIn_append el_int rfl (.tmp 42) (.tmp 48) rfl (w1.heap.size + 1 + 1) _ (k + 1) _ (hrow1.alloc _) rfl ⟨W5.heap.size, 0, none⟩ 1 1 [.int .i64 x] rfl rfl (cell_one_new _ _ _) (by simp [Value.oneCell']) (by omega) (by omega) (by simp; omega) ?_
            intro v' w4 hown' hgrow
            obtain ⟨g', cap', rfl⟩ := ownsRow_succ hown'
            obtain ⟨hv4, hv5, hr5, hk5, hb5⟩ := boxed_push hv1 (by decide) hrow1 (by simp; omega) hown' hgrow
            have hc4 := hv4.cell
            have hf4 := hv4.frozen
            refine hK _ _ ?_; clear hK K
            refine wpAnyIn_ready (rs := [8]) (by kernel_rfl) (by simp) (AllReadyIn.cons rfl (fun K hK => ?_) AllReadyIn.nil)
            go_simp
            refine hK _ _ ?_; clear hK K
            refine wpAnyIn_done (by kernel_rfl) ?_ _
            gi_wp2
            exact ⟨((HK5.out.trans KD).trans hk5).from _, (HB5.out.trans BD).trans hb5, ⟨_, o ++ [x], hv5, by simpa [toInts] using hr5, HX1.out⟩, ((hbb.trans HB5.out).trans BD).trans hb5⟩
          · go_simp
            refine hK _ _ ?_; clear hK K
            refine wpAnyIn_ready (rs := [1]) (by kernel_rfl) (by simp) (AllReadyIn.cons rfl (fun K hK => ?_) AllReadyIn.nil)
            go_simp
            refine hK _ _ ?_; clear hK K
            refine wpAnyIn_ready (rs := [4]) (by kernel_rfl) (by simp) (AllReadyIn.cons rfl (fun K hK => ?_) AllReadyIn.nil)
            go_simp
            refine hK _ _ ?_; clear hK K
            refine wpAnyIn_ready (rs := [5]) (by kernel_rfl) (by simp) (AllReadyIn.cons rfl (fun K hK => ?_) AllReadyIn.nil)
            go_simp
            refine hK _ _ ?_; clear hK K
            refine wpAnyIn_ready (rs := [6]) (by kernel_rfl) (by simp) (AllReadyIn.cons rfl (fun K hK => ?_) AllReadyIn.nil)
            go_simp
            refine hK _ _ ?_; clear hK K
            refine wpAnyIn_ready (rs := [7]) (by kernel_rfl) (by simp) (AllReadyIn.cons rfl (fun K hK => ?_) AllReadyIn.nil)
            refine stepIn_append el_int rfl (.tmp 42) (.tmp 48) rfl (w1.heap.size + 1 + 1) _ (k + 1) _ (hrow1.alloc _) rfl ⟨W5.heap.size, 0, none⟩ 1 1 [.int .i64 x] rfl rfl (cell_one_new _ _ _) (by simp [Value.oneCell']) (by omega) (by omega) (by simp; omega) ?_
            intro v' w4 hown' hgrow
            obtain ⟨g', cap', rfl⟩ := ownsRow_succ hown'
            obtain ⟨hv4, hv5, hr5, hk5, hb5⟩ := boxed_push hv1 (by decide) hrow1 (by simp; omega) hown' hgrow
            have hc4 := hv4.cell
            have hf4 := hv4.frozen
            refine hK _ _ ?_; clear hK K
            refine wpAnyIn_ready (rs := [8]) (by kernel_rfl) (by simp) (AllReadyIn.cons rfl (fun K hK => ?_) AllReadyIn.nil)
            go_simp
            refine hK _ _ ?_; clear hK K
            refine wpAnyIn_done (by kernel_rfl) ?_ _
            gi_wp2
            exact ⟨((HK5.out.trans KD).trans hk5).from _, (HB5.out.trans BD).trans hb5, ⟨_, o ++ [x], hv5, by simpa [toInts] using hr5, HX1.out⟩, ((hbb.trans HB5.out).trans BD).trans hb5⟩
      · go_simp
        refine hK _ _ ?_; clear hK K
        refine wpAnyIn_ready (rs := [0, 2]) (by kernel_rfl) (by simp) (AllReadyIn.cons rfl (fun K hK => ?_) (AllReadyIn.cons rfl (fun K hK => ?_) AllReadyIn.nil))
        · go_simp
          refine hK _ _ ?_; clear hK K
          refine wpAnyIn_ready (rs := [2]) (by kernel_rfl) (by simp) (AllReadyIn.cons rfl (fun K hK => ?_) AllReadyIn.nil)
          go_simp
          refine hK _ _ ?_; clear hK K
          refine wpAnyIn_ready (rs := [3]) (by kernel_rfl) (by simp) (AllReadyIn.cons rfl (fun K hK => ?_) AllReadyIn.nil)
          go_simp
          refine hK _ _ ?_; clear hK K
          refine wpAnyIn_ready (rs := [4]) (by kernel_rfl) (by simp) (AllReadyIn.cons rfl (fun K hK => ?_) AllReadyIn.nil)
          go_simp
          refine hK _ _ ?_; clear hK K
          refine wpAnyIn_ready (rs := [5]) (by kernel_rfl) (by simp) (AllReadyIn.cons rfl (fun K hK => ?_) AllReadyIn.nil)
          go_simp
          refine hK _ _ ?_; clear hK K
          refine wpAnyIn_ready (rs := [6]) (by kernel_rfl) (by simp) (AllReadyIn.cons rfl (fun K hK => ?_) AllReadyIn.nil)
          go_simp
          refine hK _ _ ?_; clear hK K
          refine wpAnyIn_ready (rs := [7]) (by kernel_rfl) (by simp) (AllReadyIn.cons rfl (fun K hK => ?_) AllReadyIn.nil)
          refine stepIn_append el_int rfl (.tmp 42) (.tmp 48) rfl (w1.heap.size + 1 + 1) _ (k + 1) _ (hrow1.alloc _) rfl ⟨W5.heap.size, 0, none⟩ 1 1 [.int .i64 x] rfl rfl (cell_one_new _ _ _) (by simp [Value.oneCell']) (by omega) (by omega) (by simp; omega) ?_
          intro v' w4 hown' hgrow
          obtain ⟨g', cap', rfl⟩ := ownsRow_succ hown'
          obtain ⟨hv4, hv5, hr5, hk5, hb5⟩ := boxed_push hv1 (by decide) hrow1 (by simp; omega) hown' hgrow
          have hc4 := hv4.cell
          have hf4 := hv4.frozen
          refine hK _ _ ?_; clear hK K
          refine wpAnyIn_ready (rs := [8]) (by kernel_rfl) (by simp) (AllReadyIn.cons rfl (fun K hK => ?_) AllReadyIn.nil)
          go_simp
          refine hK _ _ ?_; clear hK K
          refine wpAnyIn_done (by kernel_rfl) ?_ _
          gi_wp2
          exact ⟨((HK5.out.trans KD).trans hk5).from _, (HB5.out.trans BD).trans hb5, ⟨_, o ++ [x], hv5, by simpa [toInts] using hr5, HX1.out⟩, ((hbb.trans HB5.out).trans BD).trans hb5⟩
        · go_simp
          refine hK _ _ ?_; clear hK K
          refine wpAnyIn_ready (rs := [0, 3]) (by kernel_rfl) (by simp) (AllReadyIn.cons rfl (fun K hK => ?_) (AllReadyIn.cons rfl (fun K hK => ?_) AllReadyIn.nil))
          · go_simp
            refine hK _ _ ?_; clear hK K
            refine wpAnyIn_ready (rs := [3]) (by kernel_rfl) (by simp) (AllReadyIn.cons rfl (fun K hK => ?_) AllReadyIn.nil)
            go_simp
            refine hK _ _ ?_; clear hK K
            refine wpAnyIn_ready (rs := [4]) (by kernel_rfl) (by simp) (AllReadyIn.cons rfl (fun K hK => ?_) AllReadyIn.nil)
            go_simp
            refine hK _ _ ?_; clear hK K
            refine wpAnyIn_ready (rs := [5]) (by kernel_rfl) (by simp) (AllReadyIn.cons rfl (fun K hK => ?_) AllReadyIn.nil)
            go_simp
            refine hK _ _ ?_; clear hK K
            refine wpAnyIn_ready (rs := [6]) (by kernel_rfl) (by simp) (AllReadyIn.cons rfl (fun K hK => ?_) AllReadyIn.nil)
            go_simp
            refine hK _ _ ?_; clear hK K
            refine wpAnyIn_ready (rs := [7]) (by kernel_rfl) (by simp) (AllReadyIn.cons rfl (fun K hK => ?_) AllReadyIn.nil)
            refine stepIn_append el_int rfl (.tmp 42) (.tmp 48) rfl (w1.heap.size + 1 + 1) _ (k + 1) _ (hrow1.alloc _) rfl ⟨W5.heap.size, 0, none⟩ 1 1 [.int .i64 x] rfl rfl (cell_one_new _ _ _) (by simp [Value.oneCell']) (by omega) (by omega) (by simp; omega) ?_
            intro v' w4 hown' hgrow
            obtain ⟨g', cap', rfl⟩ := ownsRow_succ hown'
            obtain ⟨hv4, hv5, hr5, hk5, hb5⟩ := boxed_push hv1 (by decide) hrow1 (by simp; omega) hown' hgrow
            have hc4 := hv4.cell
            have hf4 := hv4.frozen
            refine hK _ _ ?_; clear hK K
            refine wpAnyIn_ready (rs := [8]) (by kernel_rfl) (by simp) (AllReadyIn.cons rfl (fun K hK => ?_) AllReadyIn.nil)
            go_simp
            refine hK _ _ ?_; clear hK K
            refine wpAnyIn_done (by kernel_rfl) ?_ _
            gi_wp2
            exact ⟨((HK5.out.trans KD).trans hk5).from _, (HB5.out.trans BD).trans hb5, ⟨_, o ++ [x], hv5, by simpa [toInts] using hr5, HX1.out⟩, ((hbb.trans HB5.out).trans BD).trans hb5⟩
          · go_simp
            refine hK _ _ ?_; clear hK K
            refine wpAnyIn_ready (rs := [0, 4]) (by kernel_rfl) (by simp) (AllReadyIn.cons rfl (fun K hK => ?_) (AllReadyIn.cons rfl (fun K hK => ?_) AllReadyIn.nil))
            · go_simp
              refine hK _ _ ?_; clear hK K
              refine wpAnyIn_ready (rs := [4]) (by kernel_rfl) (by simp) (AllReadyIn.cons rfl (fun K hK => ?_) AllReadyIn.nil)
              go_simp
              refine hK _ _ ?_; clear hK K
              refine wpAnyIn_ready (rs := [5]) (by kernel_rfl) (by simp) (AllReadyIn.cons rfl (fun K hK => ?_) AllReadyIn.nil)
              go_simp
              refine hK _ _ ?_; clear hK K
              refine wpAnyIn_ready (rs := [6]) (by kernel_rfl) (by simp) (AllReadyIn.cons rfl (fun K hK => ?_) AllReadyIn.nil)
              go_simp
              refine hK _ _ ?_; clear hK K
              refine wpAnyIn_ready (rs := [7]) (by kernel_rfl) (by simp) (AllReadyIn.cons rfl (fun K hK => ?_) AllReadyIn.nil)
              refine stepIn_append el_int rfl (.tmp 42) (.tmp 48) rfl (w1.heap.size + 1 + 1) _ (k + 1) _ (hrow1.alloc _) rfl ⟨W5.heap.size, 0, none⟩ 1 1 [.int .i64 x] rfl rfl (cell_one_new _ _ _) (by simp [Value.oneCell']) (by omega) (by omega) (by simp; omega) ?_
              intro v' w4 hown' hgrow
              obtain ⟨g', cap', rfl⟩ := ownsRow_succ hown'
              obtain ⟨hv4, hv5, hr5, hk5, hb5⟩ := boxed_push hv1 (by decide) hrow1 (by simp; omega) hown' hgrow
              have hc4 := hv4.cell
              have hf4 := hv4.frozen
              refine hK _ _ ?_; clear hK K
              refine wpAnyIn_ready (rs := [8]) (by kernel_rfl) (by simp) (AllReadyIn.cons rfl (fun K hK => ?_) AllReadyIn.nil)
              go_simp
              refine hK _ _ ?_; clear hK K
              refine wpAnyIn_done (by kernel_rfl) ?_ _
              gi_wp2
              exact ⟨((HK5.out.trans KD).trans hk5).from _, (HB5.out.trans BD).trans hb5, ⟨_, o ++ [x], hv5, by simpa [toInts] using hr5, HX1.out⟩, ((hbb.trans HB5.out).trans BD).trans hb5⟩
            · go_simp
              refine hK _ _ ?_; clear hK K
              refine wpAnyIn_ready (rs := [0, 5]) (by kernel_rfl) (by simp) (AllReadyIn.cons rfl (fun K hK => ?_) (AllReadyIn.cons rfl (fun K hK => ?_) AllReadyIn.nil))
              · go_simp
                refine hK _ _ ?_; clear hK K
                refine wpAnyIn_ready (rs := [5]) (by kernel_rfl) (by simp) (AllReadyIn.cons rfl (fun K hK => ?_) AllReadyIn.nil)
                go_simp
                refine hK _ _ ?_; clear hK K
                refine wpAnyIn_ready (rs := [6]) (by kernel_rfl) (by simp) (AllReadyIn.cons rfl (fun K hK => ?_) AllReadyIn.nil)
                go_simp
                refine hK _ _ ?_; clear hK K
                refine wpAnyIn_ready (rs := [7]) (by kernel_rfl) (by simp) (AllReadyIn.cons rfl (fun K hK => ?_) AllReadyIn.nil)
                refine stepIn_append el_int rfl (.tmp 42) (.tmp 48) rfl (w1.heap.size + 1 + 1) _ (k + 1) _ (hrow1.alloc _) rfl ⟨W5.heap.size, 0, none⟩ 1 1 [.int .i64 x] rfl rfl (cell_one_new _ _ _) (by simp [Value.oneCell']) (by omega) (by omega) (by simp; omega) ?_
                intro v' w4 hown' hgrow
                obtain ⟨g', cap', rfl⟩ := ownsRow_succ hown'
                obtain ⟨hv4, hv5, hr5, hk5, hb5⟩ := boxed_push hv1 (by decide) hrow1 (by simp; omega) hown' hgrow
                have hc4 := hv4.cell
                have hf4 := hv4.frozen
                refine hK _ _ ?_; clear hK K
                refine wpAnyIn_ready (rs := [8]) (by kernel_rfl) (by simp) (AllReadyIn.cons rfl (fun K hK => ?_) AllReadyIn.nil)
                go_simp
                refine hK _ _ ?_; clear hK K
                refine wpAnyIn_done (by kernel_rfl) ?_ _
                gi_wp2
                exact ⟨((HK5.out.trans KD).trans hk5).from _, (HB5.out.trans BD).trans hb5, ⟨_, o ++ [x], hv5, by simpa [toInts] using hr5, HX1.out⟩, ((hbb.trans HB5.out).trans BD).trans hb5⟩
              · go_simp
                refine hK _ _ ?_; clear hK K
                refine wpAnyIn_ready (rs := [0, 6]) (by kernel_rfl) (by simp) (AllReadyIn.cons rfl (fun K hK => ?_) (AllReadyIn.cons rfl (fun K hK => ?_) AllReadyIn.nil))
                · go_simp
                  refine hK _ _ ?_; clear hK K
                  refine wpAnyIn_ready (rs := [6]) (by kernel_rfl) (by simp) (AllReadyIn.cons rfl (fun K hK => ?_) AllReadyIn.nil)
                  go_simp
                  refine hK _ _ ?_; clear hK K
                  refine wpAnyIn_ready (rs := [7]) (by kernel_rfl) (by simp) (AllReadyIn.cons rfl (fun K hK => ?_) AllReadyIn.nil)
                  refine stepIn_append el_int rfl (.tmp 42) (.tmp 48) rfl (w1.heap.size + 1 + 1) _ (k + 1) _ (hrow1.alloc _) rfl ⟨W5.heap.size, 0, none⟩ 1 1 [.int .i64 x] rfl rfl (cell_one_new _ _ _) (by simp [Value.oneCell']) (by omega) (by omega) (by simp; omega) ?_
                  intro v' w4 hown' hgrow
                  obtain ⟨g', cap', rfl⟩ := ownsRow_succ hown'
                  obtain ⟨hv4, hv5, hr5, hk5, hb5⟩ := boxed_push hv1 (by decide) hrow1 (by simp; omega) hown' hgrow
                  have hc4 := hv4.cell
                  have hf4 := hv4.frozen
                  refine hK _ _ ?_; clear hK K
                  refine wpAnyIn_ready (rs := [8]) (by kernel_rfl) (by simp) (AllReadyIn.cons rfl (fun K hK => ?_) AllReadyIn.nil)
                  go_simp
                  refine hK _ _ ?_; clear hK K
                  refine wpAnyIn_done (by kernel_rfl) ?_ _
                  gi_wp2
                  exact ⟨((HK5.out.trans KD).trans hk5).from _, (HB5.out.trans BD).trans hb5, ⟨_, o ++ [x], hv5, by simpa [toInts] using hr5, HX1.out⟩, ((hbb.trans HB5.out).trans BD).trans hb5⟩
                · go_simp
                  refine hK _ _ ?_; clear hK K
                  refine wpAnyIn_ready (rs := [0]) (by kernel_rfl) (by simp) (AllReadyIn.cons rfl (fun K hK => ?_) AllReadyIn.nil)
                  go_simp
                  refine hK _ _ ?_; clear hK K
                  refine wpAnyIn_ready (rs := [7]) (by kernel_rfl) (by simp) (AllReadyIn.cons rfl (fun K hK => ?_) AllReadyIn.nil)
                  refine stepIn_append el_int rfl (.tmp 42) (.tmp 48) rfl (w1.heap.size + 1 + 1) _ (k + 1) _ (hrow1.alloc _) rfl ⟨W5.heap.size, 0, none⟩ 1 1 [.int .i64 x] rfl rfl (cell_one_new _ _ _) (by simp [Value.oneCell']) (by omega) (by omega) (by simp; omega) ?_
                  intro v' w4 hown' hgrow
                  obtain ⟨g', cap', rfl⟩ := ownsRow_succ hown'
                  obtain ⟨hv4, hv5, hr5, hk5, hb5⟩ := boxed_push hv1 (by decide) hrow1 (by simp; omega) hown' hgrow
                  have hc4 := hv4.cell
                  have hf4 := hv4.frozen
                  refine hK _ _ ?_; clear hK K
                  refine wpAnyIn_ready (rs := [8]) (by kernel_rfl) (by simp) (AllReadyIn.cons rfl (fun K hK => ?_) AllReadyIn.nil)
                  go_simp
                  refine hK _ _ ?_; clear hK K
                  refine wpAnyIn_done (by kernel_rfl) ?_ _
                  gi_wp2
                  exact ⟨((HK5.out.trans KD).trans hk5).from _, (HB5.out.trans BD).trans hb5, ⟨_, o ++ [x], hv5, by simpa [toInts] using hr5, HX1.out⟩, ((hbb.trans HB5.out).trans BD).trans hb5⟩
      · go_simp
        refine hK _ _ ?_; clear hK K
        refine wpAnyIn_ready (rs := [0, 1, 3]) (by kernel_rfl) (by simp) (AllReadyIn.cons rfl (fun K hK => ?_) (AllReadyIn.cons rfl (fun K hK => ?_) (AllReadyIn.cons rfl (fun K hK => ?_) AllReadyIn.nil)))
        · go_simp
          refine hK _ _ ?_; clear hK K
          refine wpAnyIn_ready (rs := [1, 3]) (by kernel_rfl) (by simp) (AllReadyIn.cons rfl (fun K hK => ?_) (AllReadyIn.cons rfl (fun K hK => ?_) AllReadyIn.nil))
          · go_simp
            refine hK _ _ ?_; clear hK K
            refine wpAnyIn_ready (rs := [3]) (by kernel_rfl) (by simp) (AllReadyIn.cons rfl (fun K hK => ?_) AllReadyIn.nil)
            go_simp
            refine hK _ _ ?_; clear hK K
            refine wpAnyIn_ready (rs := [4]) (by kernel_rfl) (by simp) (AllReadyIn.cons rfl (fun K hK => ?_) AllReadyIn.nil)
            go_simp
            refine hK _ _ ?_; clear hK K
            refine wpAnyIn_ready (rs := [5]) (by kernel_rfl) (by simp) (AllReadyIn.cons rfl (fun K hK => ?_) AllReadyIn.nil)
            go_simp
            refine hK _ _ ?_; clear hK K
            refine wpAnyIn_ready (rs := [6]) (by kernel_rfl) (by simp) (AllReadyIn.cons rfl (fun K hK => ?_) AllReadyIn.nil)
            go_simp
            refine hK _ _ ?_; clear hK K
            refine wpAnyIn_ready (rs := [7]) (by kernel_rfl) (by simp) (AllReadyIn.cons rfl (fun K hK => ?_) AllReadyIn.nil)
            refine stepIn_append el_int rfl (.tmp 42) (.tmp 48) rfl (w1.heap.size + 1 + 1) _ (k + 1) _ (hrow1.alloc _) rfl ⟨W5.heap.size, 0, none⟩ 1 1 [.int .i64 x] rfl rfl (cell_one_new _ _ _) (by simp [Value.oneCell']) (by omega) (by omega) (by simp; omega) ?_
            intro v' w4 hown' hgrow
            obtain ⟨g', cap', rfl⟩ := ownsRow_succ hown'
            obtain ⟨hv4, hv5, hr5, hk5, hb5⟩ := boxed_push hv1 (by decide) hrow1 (by simp; omega) hown' hgrow
            have hc4 := hv4.cell
            have hf4 := hv4.frozen
            refine hK _ _ ?_; clear hK K
            refine wpAnyIn_ready (rs := [8]) (by kernel_rfl) (by simp) (AllReadyIn.cons rfl (fun K hK => ?_) AllReadyIn.nil)
            go_simp
            refine hK _ _ ?_; clear hK K
            refine wpAnyIn_done (by kernel_rfl) ?_ _
            gi_wp2
            exact ⟨((HK5.out.trans KD).trans hk5).from _, (HB5.out.trans BD).trans hb5, ⟨_, o ++ [x], hv5, by simpa [toInts] using hr5, HX1.out⟩, ((hbb.trans HB5.out).trans BD).trans hb5⟩
          · go_simp
            refine hK _ _ ?_; clear hK K
            refine wpAnyIn_ready (rs := [1]) (by kernel_rfl) (by simp) (AllReadyIn.cons rfl (fun K hK => ?_) AllReadyIn.nil)
            go_simp
            refine hK _ _ ?_; clear hK K
            refine wpAnyIn_ready (rs := [4]) (by kernel_rfl) (by simp) (AllReadyIn.cons rfl (fun K hK => ?_) AllReadyIn.nil)
            go_simp
            refine hK _ _ ?_; clear hK K
            refine wpAnyIn_ready (rs := [5]) (by kernel_rfl) (by simp) (AllReadyIn.cons rfl (fun K hK => ?_) AllReadyIn.nil)
            go_simp
            refine hK _ _ ?_; clear hK K
            refine wpAnyIn_ready (rs := [6]) (by kernel_rfl) (by simp) (AllReadyIn.cons rfl (fun K hK => ?_) AllReadyIn.nil)
            go_simp
            refine hK _ _ ?_; clear hK K
            refine wpAnyIn_ready (rs := [7]) (by kernel_rfl) (by simp) (AllReadyIn.cons rfl (fun K hK => ?_) AllReadyIn.nil)
            refine stepIn_append el_int rfl (.tmp 42) (.tmp 48) rfl (w1.heap.size + 1 + 1) _ (k + 1) _ (hrow1.alloc _) rfl ⟨W5.heap.size, 0, none⟩ 1 1 [.int .i64 x] rfl rfl (cell_one_new _ _ _) (by simp [Value.oneCell']) (by omega) (by omega) (by simp; omega) ?_
            intro v' w4 hown' hgrow
            obtain ⟨g', cap', rfl⟩ := ownsRow_succ hown'
            obtain ⟨hv4, hv5, hr5, hk5, hb5⟩ := boxed_push hv1 (by decide) hrow1 (by simp; omega) hown' hgrow
            have hc4 := hv4.cell
            have hf4 := hv4.frozen
            refine hK _ _ ?_; clear hK K
            refine wpAnyIn_ready (rs := [8]) (by kernel_rfl) (by simp) (AllReadyIn.cons rfl (fun K hK => ?_) AllReadyIn.nil)
            go_simp
            refine hK _ _ ?_; clear hK K
            refine wpAnyIn_done (by kernel_rfl) ?_ _
            gi_wp2
            exact ⟨((HK5.out.trans KD).trans hk5).from _, (HB5.out.trans BD).trans hb5, ⟨_, o ++ [x], hv5, by simpa [toInts] using hr5, HX1.out⟩, ((hbb.trans HB5.out).trans BD).trans hb5⟩
        · go_simp
          refine hK _ _ ?_; clear hK K
          refine wpAnyIn_ready (rs := [0, 3]) (by kernel_rfl) (by simp) (AllReadyIn.cons rfl (fun K hK => ?_) (AllReadyIn.cons rfl (fun K hK => ?_) AllReadyIn.nil))
          · go_simp
            refine hK _ _ ?_; clear hK K
            refine wpAnyIn_ready (rs := [3]) (by kernel_rfl) (by simp) (AllReadyIn.cons rfl (fun K hK => ?_) AllReadyIn.nil)
            go_simp
            refine hK _ _ ?_; clear hK K
            refine wpAnyIn_ready (rs := [4]) (by kernel_rfl) (by simp) (AllReadyIn.cons rfl (fun K hK => ?_) AllReadyIn.nil)
            go_simp
            refine hK _ _ ?_; clear hK K
            refine wpAnyIn_ready (rs := [5]) (by kernel_rfl) (by simp) (AllReadyIn.cons rfl (fun K hK => ?_) AllReadyIn.nil)
            go_simp
            refine hK _ _ ?_; clear hK K
            refine wpAnyIn_ready (rs := [6]) (by kernel_rfl) (by simp) (AllReadyIn.cons rfl (fun K hK => ?_) AllReadyIn.nil)
            go_simp
            refine hK _ _ ?_; clear hK K
            refine wpAnyIn_ready (rs := [7]) (by kernel_rfl) (by simp) (AllReadyIn.cons rfl (fun K hK => ?_) AllReadyIn.nil)
            refine stepIn_append el_int rfl (.tmp 42) (.tmp 48) rfl (w1.heap.size + 1 + 1) _ (k + 1) _ (hrow1.alloc _) rfl ⟨W5.heap.size, 0, none⟩ 1 1 [.int .i64 x] rfl rfl (cell_one_new _ _ _) (by simp [Value.oneCell']) (by omega) (by omega) (by simp; omega) ?_
            intro v' w4 hown' hgrow
            obtain ⟨g', cap', rfl⟩ := ownsRow_succ hown'
            obtain ⟨hv4, hv5, hr5, hk5, hb5⟩ := boxed_push hv1 (by decide) hrow1 (by simp; omega) hown' hgrow
            have hc4 := hv4.cell
            have hf4 := hv4.frozen
            refine hK _ _ ?_; clear hK K
            refine wpAnyIn_ready (rs := [8]) (by kernel_rfl) (by simp) (AllReadyIn.cons rfl (fun K hK => ?_) AllReadyIn.nil)
            go_simp
            refine hK _ _ ?_; clear hK K
            refine wpAnyIn_done (by kernel_rfl) ?_ _
            gi_wp2
            exact ⟨((HK5.out.trans KD).trans hk5).from _, (HB5.out.trans BD).trans hb5, ⟨_, o ++ [x], hv5, by simpa [toInts] using hr5, HX1.out⟩, ((hbb.trans HB5.out).trans BD).trans hb5⟩
          · go_simp
            refine hK _ _ ?_; clear hK K
            refine wpAnyIn_ready (rs := [0, 4]) (by kernel_rfl) (by simp) (AllReadyIn.cons rfl (fun K hK => ?_) (AllReadyIn.cons rfl (fun K hK => ?_) AllReadyIn.nil))
            · go_simp
              refine hK _ _ ?_; clear hK K
              refine wpAnyIn_ready (rs := [4]) (by kernel_rfl) (by simp) (AllReadyIn.cons rfl (fun K hK => ?_) AllReadyIn.nil)
              go_simp
              refine hK _ _ ?_; clear hK K
              refine wpAnyIn_ready (rs := [5]) (by kernel_rfl) (by simp) (AllReadyIn.cons rfl (fun K hK => ?_) AllReadyIn.nil)
              go_simp
              refine hK _ _ ?_; clear hK K
              refine wpAnyIn_ready (rs := [6]) (by kernel_rfl) (by simp) (AllReadyIn.cons rfl (fun K hK => ?_) AllReadyIn.nil)
              go_simp
              refine hK _ _ ?_; clear hK K
              refine wpAnyIn_ready (rs := [7]) (by kernel_rfl) (by simp) (AllReadyIn.cons rfl (fun K hK => ?_) AllReadyIn.nil)
              refine stepIn_append el_int rfl (.tmp 42) (.tmp 48) rfl (w1.heap.size + 1 + 1) _ (k + 1) _ (hrow1.alloc _) rfl ⟨W5.heap.size, 0, none⟩ 1 1 [.int .i64 x] rfl rfl (cell_one_new _ _ _) (by simp [Value.oneCell']) (by omega) (by omega) (by simp; omega) ?_
              intro v' w4 hown' hgrow
              obtain ⟨g', cap', rfl⟩ := ownsRow_succ hown'
              obtain ⟨hv4, hv5, hr5, hk5, hb5⟩ := boxed_push hv1 (by decide) hrow1 (by simp; omega) hown' hgrow
              have hc4 := hv4.cell
              have hf4 := hv4.frozen
              refine hK _ _ ?_; clear hK K
              refine wpAnyIn_ready (rs := [8]) (by kernel_rfl) (by simp) (AllReadyIn.cons rfl (fun K hK => ?_) AllReadyIn.nil)
              go_simp
              refine hK _ _ ?_; clear hK K
              refine wpAnyIn_done (by kernel_rfl) ?_ _
              gi_wp2
              exact ⟨((HK5.out.trans KD).trans hk5).from _, (HB5.out.trans BD).trans hb5, ⟨_, o ++ [x], hv5, by simpa [toInts] using hr5, HX1.out⟩, ((hbb.trans HB5.out).trans BD).trans hb5⟩
            · go_simp
              refine hK _ _ ?_; clear hK K
              refine wpAnyIn_ready (rs := [0, 5]) (by kernel_rfl) (by simp) (AllReadyIn.cons rfl (fun K hK => ?_) (AllReadyIn.cons rfl (fun K hK => ?_) AllReadyIn.nil))
              · go_simp
                refine hK _ _ ?_; clear hK K
                refine wpAnyIn_ready (rs := [5]) (by kernel_rfl) (by simp) (AllReadyIn.cons rfl (fun K hK => ?_) AllReadyIn.nil)
                go_simp
                refine hK _ _ ?_; clear hK K
                refine wpAnyIn_ready (rs := [6]) (by kernel_rfl) (by simp) (AllReadyIn.cons rfl (fun K hK => ?_) AllReadyIn.nil)
                go_simp
                refine hK _ _ ?_; clear hK K
                refine wpAnyIn_ready (rs := [7]) (by kernel_rfl) (by simp) (AllReadyIn.cons rfl (fun K hK => ?_) AllReadyIn.nil)
                refine stepIn_append el_int rfl (.tmp 42) (.tmp 48) rfl (w1.heap.size + 1 + 1) _ (k + 1) _ (hrow1.alloc _) rfl ⟨W5.heap.size, 0, none⟩ 1 1 [.int .i64 x] rfl rfl (cell_one_new _ _ _) (by simp [Value.oneCell']) (by omega) (by omega) (by simp; omega) ?_
                intro v' w4 hown' hgrow
                obtain ⟨g', cap', rfl⟩ := ownsRow_succ hown'
                obtain ⟨hv4, hv5, hr5, hk5, hb5⟩ := boxed_push hv1 (by decide) hrow1 (by simp; omega) hown' hgrow
                have hc4 := hv4.cell
                have hf4 := hv4.frozen
                refine hK _ _ ?_; clear hK K
                refine wpAnyIn_ready (rs := [8]) (by kernel_rfl) (by simp) (AllReadyIn.cons rfl (fun K hK => ?_) AllReadyIn.nil)
                go_simp
                refine hK _ _ ?_; clear hK K
                refine wpAnyIn_done (by kernel_rfl) ?_ _
                gi_wp2
                exact ⟨((HK5.out.trans KD).trans hk5).from _, (HB5.out.trans BD).trans hb5, ⟨_, o ++ [x], hv5, by simpa [toInts] using hr5, HX1.out⟩, ((hbb.trans HB5.out).trans BD).trans hb5⟩
              · go_simp
                refine hK _ _ ?_; clear hK K
                refine wpAnyIn_ready (rs := [0, 6]) (by kernel_rfl) (by simp) (AllReadyIn.cons rfl (fun K hK => ?_) (AllReadyIn.cons rfl (fun K hK => ?_) AllReadyIn.nil))
                · go_simp
                  refine hK _ _ ?_; clear hK K
                  refine wpAnyIn_ready (rs := [6]) (by kernel_rfl) (by simp) (AllReadyIn.cons rfl (fun K hK => ?_) AllReadyIn.nil)
                  go_simp
                  refine hK _ _ ?_; clear hK K
                  refine wpAnyIn_ready (rs := [7]) (by kernel_rfl) (by simp) (AllReadyIn.cons rfl (fun K hK => ?_) AllReadyIn.nil)
                  refine stepIn_append el_int rfl (.tmp 42) (.tmp 48) rfl (w1.heap.size + 1 + 1) _ (k + 1) _ (hrow1.alloc _) rfl ⟨W5.heap.size, 0, none⟩ 1 1 [.int .i64 x] rfl rfl (cell_one_new _ _ _) (by simp [Value.oneCell']) (by omega) (by omega) (by simp; omega) ?_
                  intro v' w4 hown' hgrow
                  obtain ⟨g', cap', rfl⟩ := ownsRow_succ hown'
                  obtain ⟨hv4, hv5, hr5, hk5, hb5⟩ := boxed_push hv1 (by decide) hrow1 (by simp; omega) hown' hgrow
                  have hc4 := hv4.cell
                  have hf4 := hv4.frozen
                  refine hK _ _ ?_; clear hK K
                  refine wpAnyIn_ready (rs := [8]) (by kernel_rfl) (by simp) (AllReadyIn.cons rfl (fun K hK => ?_) AllReadyIn.nil)
                  go_simp
                  refine hK _ _ ?_; clear hK K
                  refine wpAnyIn_done (by kernel_rfl) ?_ _
                  gi_wp2
                  exact ⟨((HK5.out.trans KD).trans hk5).from _, (HB5.out.trans BD).trans hb5, ⟨_, o ++ [x], hv5, by simpa [toInts] using hr5, HX1.out⟩, ((hbb.trans HB5.out).trans BD).trans hb5⟩
                · go_simp
                  refine hK _ _ ?_; clear hK K
                  refine wpAnyIn_ready (rs := [0]) (by kernel_rfl) (by simp) (AllReadyIn.cons rfl (fun K hK => ?_) AllReadyIn.nil)
                  go_simp
                  refine hK _ _ ?_; clear hK K
                  refine wpAnyIn_ready (rs := [7]) (by kernel_rfl) (by simp) (AllReadyIn.cons rfl (fun K hK => ?_) AllReadyIn.nil)
                  refine stepIn_append el_int rfl (.tmp 42) (.tmp 48) rfl (w1.heap.size + 1 + 1) _ (k + 1) _ (hrow1.alloc _) rfl ⟨W5.heap.size, 0, none⟩ 1 1 [.int .i64 x] rfl rfl (cell_one_new _ _ _) (by simp [Value.oneCell']) (by omega) (by omega) (by simp; omega) ?_
                  intro v' w4 hown' hgrow
                  obtain ⟨g', cap', rfl⟩ := ownsRow_succ hown'
                  obtain ⟨hv4, hv5, hr5, hk5, hb5⟩ := boxed_push hv1 (by decide) hrow1 (by simp; omega) hown' hgrow
                  have hc4 := hv4.cell
                  have hf4 := hv4.frozen
                  refine hK _ _ ?_; clear hK K
                  refine wpAnyIn_ready (rs := [8]) (by kernel_rfl) (by simp) (AllReadyIn.cons rfl (fun K hK => ?_) AllReadyIn.nil)
                  go_simp
                  refine hK _ _ ?_; clear hK K
                  refine wpAnyIn_done (by kernel_rfl) ?_ _
                  gi_wp2
                  exact ⟨((HK5.out.trans KD).trans hk5).from _, (HB5.out.trans BD).trans hb5, ⟨_, o ++ [x], hv5, by simpa [toInts] using hr5, HX1.out⟩, ((hbb.trans HB5.out).trans BD).trans hb5⟩
        · go_simp
          refine hK _ _ ?_; clear hK K
          refine wpAnyIn_ready (rs := [0, 1]) (by kernel_rfl) (by simp) (AllReadyIn.cons rfl (fun K hK => ?_) (AllReadyIn.cons rfl (fun K hK => ?_) AllReadyIn.nil))
          · go_simp
            refine hK _ _ ?_; clear hK K
            refine wpAnyIn_ready (rs := [1]) (by kernel_rfl) (by simp) (AllReadyIn.cons rfl (fun K hK => ?_) AllReadyIn.nil)
            go_simp
            refine hK _ _ ?_; clear hK K
            refine wpAnyIn_ready (rs := [4]) (by kernel_rfl) (by simp) (AllReadyIn.cons rfl (fun K hK => ?_) AllReadyIn.nil)
            go_simp
            refine hK _ _ ?_; clear hK K
            refine wpAnyIn_ready (rs := [5]) (by kernel_rfl) (by simp) (AllReadyIn.cons rfl (fun K hK => ?_) AllReadyIn.nil)
            go_simp
            refine hK _ _ ?_; clear hK K
            refine wpAnyIn_ready (rs := [6]) (by kernel_rfl) (by simp) (AllReadyIn.cons rfl (fun K hK => ?_) AllReadyIn.nil)
            go_simp
            refine hK _ _ ?_; clear hK K
            refine wpAnyIn_ready (rs := [7]) (by kernel_rfl) (by simp) (AllReadyIn.cons rfl (fun K hK => ?_) AllReadyIn.nil)
            refine stepIn_append el_int rfl (.tmp 42) (.tmp 48) rfl (w1.heap.size + 1 + 1) _ (k + 1) _ (hrow1.alloc _) rfl ⟨W5.heap.size, 0, none⟩ 1 1 [.int .i64 x] rfl rfl (cell_one_new _ _ _) (by simp [Value.oneCell']) (by omega) (by omega) (by simp; omega) ?_
            intro v' w4 hown' hgrow
            obtain ⟨g', cap', rfl⟩ := ownsRow_succ hown'
            obtain ⟨hv4, hv5, hr5, hk5, hb5⟩ := boxed_push hv1 (by decide) hrow1 (by simp; omega) hown' hgrow
            have hc4 := hv4.cell
            have hf4 := hv4.frozen
            refine hK _ _ ?_; clear hK K
            refine wpAnyIn_ready (rs := [8]) (by kernel_rfl) (by simp) (AllReadyIn.cons rfl (fun K hK => ?_) AllReadyIn.nil)
            go_simp
            refine hK _ _ ?_; clear hK K
            refine wpAnyIn_done (by kernel_rfl) ?_ _
            gi_wp2
            exact ⟨((HK5.out.trans KD).trans hk5).from _, (HB5.out.trans BD).trans hb5, ⟨_, o ++ [x], hv5, by simpa [toInts] using hr5, HX1.out⟩, ((hbb.trans HB5.out).trans BD).trans hb5⟩
          · go_simp
            refine hK _ _ ?_; clear hK K
            refine wpAnyIn_ready (rs := [0, 4]) (by kernel_rfl) (by simp) (AllReadyIn.cons rfl (fun K hK => ?_) (AllReadyIn.cons rfl (fun K hK => ?_) AllReadyIn.nil))
            · go_simp
              refine hK _ _ ?_; clear hK K
              refine wpAnyIn_ready (rs := [4]) (by kernel_rfl) (by simp) (AllReadyIn.cons rfl (fun K hK => ?_) AllReadyIn.nil)
              go_simp
              refine hK _ _ ?_; clear hK K
              refine wpAnyIn_ready (rs := [5]) (by kernel_rfl) (by simp) (AllReadyIn.cons rfl (fun K hK => ?_) AllReadyIn.nil)
              go_simp
              refine hK _ _ ?_; clear hK K
              refine wpAnyIn_ready (rs := [6]) (by kernel_rfl) (by simp) (AllReadyIn.cons rfl (fun K hK => ?_) AllReadyIn.nil)
              go_simp
              refine hK _ _ ?_; clear hK K
              refine wpAnyIn_ready (rs := [7]) (by kernel_rfl) (by simp) (AllReadyIn.cons rfl (fun K hK => ?_) AllReadyIn.nil)
              refine stepIn_append el_int rfl (.tmp 42) (.tmp 48) rfl (w1.heap.size + 1 + 1) _ (k + 1) _ (hrow1.alloc _) rfl ⟨W5.heap.size, 0, none⟩ 1 1 [.int .i64 x] rfl rfl (cell_one_new _ _ _) (by simp [Value.oneCell']) (by omega) (by omega) (by simp; omega) ?_
              intro v' w4 hown' hgrow
              obtain ⟨g', cap', rfl⟩ := ownsRow_succ hown'
              obtain ⟨hv4, hv5, hr5, hk5, hb5⟩ := boxed_push hv1 (by decide) hrow1 (by simp; omega) hown' hgrow
              have hc4 := hv4.cell
              have hf4 := hv4.frozen
              refine hK _ _ ?_; clear hK K
              refine wpAnyIn_ready (rs := [8]) (by kernel_rfl) (by simp) (AllReadyIn.cons rfl (fun K hK => ?_) AllReadyIn.nil)
              go_simp
              refine hK _ _ ?_; clear hK K
              refine wpAnyIn_done (by kernel_rfl) ?_ _
              gi_wp2
              exact ⟨((HK5.out.trans KD).trans hk5).from _, (HB5.out.trans BD).trans hb5, ⟨_, o ++ [x], hv5, by simpa [toInts] using hr5, HX1.out⟩, ((hbb.trans HB5.out).trans BD).trans hb5⟩
            · go_simp
              refine hK _ _ ?_; clear hK K
              refine wpAnyIn_ready (rs := [0, 5]) (by kernel_rfl) (by simp) (AllReadyIn.cons rfl (fun K hK => ?_) (AllReadyIn.cons rfl (fun K hK => ?_) AllReadyIn.nil))
              · go_simp
                refine hK _ _ ?_; clear hK K
                refine wpAnyIn_ready (rs := [5]) (by kernel_rfl) (by simp) (AllReadyIn.cons rfl (fun K hK => ?_) AllReadyIn.nil)
                go_simp
                refine hK _ _ ?_; clear hK K
                refine wpAnyIn_ready (rs := [6]) (by kernel_rfl) (by simp) (AllReadyIn.cons rfl (fun K hK => ?_) AllReadyIn.nil)
                go_simp
                refine hK _ _ ?_; clear hK K
                refine wpAnyIn_ready (rs := [7]) (by kernel_rfl) (by simp) (AllReadyIn.cons rfl (fun K hK => ?_) AllReadyIn.nil)
                refine stepIn_append el_int rfl (.tmp 42) (.tmp 48) rfl (w1.heap.size + 1 + 1) _ (k + 1) _ (hrow1.alloc _) rfl ⟨W5.heap.size, 0, none⟩ 1 1 [.int .i64 x] rfl rfl (cell_one_new _ _ _) (by simp [Value.oneCell']) (by omega) (by omega) (by simp; omega) ?_
                intro v' w4 hown' hgrow
                obtain ⟨g', cap', rfl⟩ := ownsRow_succ hown'
                obtain ⟨hv4, hv5, hr5, hk5, hb5⟩ := boxed_push hv1 (by decide) hrow1 (by simp; omega) hown' hgrow
                have hc4 := hv4.cell
                have hf4 := hv4.frozen
                refine hK _ _ ?_; clear hK K
                refine wpAnyIn_ready (rs := [8]) (by kernel_rfl) (by simp) (AllReadyIn.cons rfl (fun K hK => ?_) AllReadyIn.nil)
                go_simp
                refine hK _ _ ?_; clear hK K
                refine wpAnyIn_done (by kernel_rfl) ?_ _
                gi_wp2
                exact ⟨((HK5.out.trans KD).trans hk5).from _, (HB5.out.trans BD).trans hb5, ⟨_, o ++ [x], hv5, by simpa [toInts] using hr5, HX1.out⟩, ((hbb.trans HB5.out).trans BD).trans hb5⟩
              · go_simp
                refine hK _ _ ?_; clear hK K
                refine wpAnyIn_ready (rs := [0, 6]) (by kernel_rfl) (by simp) (AllReadyIn.cons rfl (fun K hK => ?_) (AllReadyIn.cons rfl (fun K hK => ?_) AllReadyIn.nil))
                · go_simp
                  refine hK _ _ ?_; clear hK K
                  refine wpAnyIn_ready (rs := [6]) (by kernel_rfl) (by simp) (AllReadyIn.cons rfl (fun K hK => ?_) AllReadyIn.nil)
                  go_simp
                  refine hK _ _ ?_; clear hK K
                  refine wpAnyIn_ready (rs := [7]) (by kernel_rfl) (by simp) (AllReadyIn.cons rfl (fun K hK => ?_) AllReadyIn.nil)
                  refine stepIn_append el_int rfl (.tmp 42) (.tmp 48) rfl (w1.heap.size + 1 + 1) _ (k + 1) _ (hrow1.alloc _) rfl ⟨W5.heap.size, 0, none⟩ 1 1 [.int .i64 x] rfl rfl (cell_one_new _ _ _) (by simp [Value.oneCell']) (by omega) (by omega) (by simp; omega) ?_
                  intro v' w4 hown' hgrow
                  obtain ⟨g', cap', rfl⟩ := ownsRow_succ hown'
                  obtain ⟨hv4, hv5, hr5, hk5, hb5⟩ := boxed_push hv1 (by decide) hrow1 (by simp; omega) hown' hgrow
                  have hc4 := hv4.cell
                  have hf4 := hv4.frozen
                  refine hK _ _ ?_; clear hK K
                  refine wpAnyIn_ready (rs := [8]) (by kernel_rfl) (by simp) (AllReadyIn.cons rfl (fun K hK => ?_) AllReadyIn.nil)
                  go_simp
                  refine hK _ _ ?_; clear hK K
                  refine wpAnyIn_done (by kernel_rfl) ?_ _
                  gi_wp2
                  exact ⟨((HK5.out.trans KD).trans hk5).from _, (HB5.out.trans BD).trans hb5, ⟨_, o ++ [x], hv5, by simpa [toInts] using hr5, HX1.out⟩, ((hbb.trans HB5.out).trans BD).trans hb5⟩
                · go_simp
                  refine hK _ _ ?_; clear hK K
                  refine wpAnyIn_ready (rs := [0]) (by kernel_rfl) (by simp) (AllReadyIn.cons rfl (fun K hK => ?_) AllReadyIn.nil)
                  go_simp
                  refine hK _ _ ?_; clear hK K
                  refine wpAnyIn_ready (rs := [7]) (by kernel_rfl) (by simp) (AllReadyIn.cons rfl (fun K hK => ?_) AllReadyIn.nil)
                  refine stepIn_append el_int rfl (.tmp 42) (.tmp 48) rfl (w1.heap.size + 1 + 1) _ (k + 1) _ (hrow1.alloc _) rfl ⟨W5.heap.size, 0, none⟩ 1 1 [.int .i64 x] rfl rfl (cell_one_new _ _ _) (by simp [Value.oneCell']) (by omega) (by omega) (by simp; omega) ?_
                  intro v' w4 hown' hgrow
                  obtain ⟨g', cap', rfl⟩ := ownsRow_succ hown'
                  obtain ⟨hv4, hv5, hr5, hk5, hb5⟩ := boxed_push hv1 (by decide) hrow1 (by simp; omega) hown' hgrow
                  have hc4 := hv4.cell
                  have hf4 := hv4.frozen
                  refine hK _ _ ?_; clear hK K
                  refine wpAnyIn_ready (rs := [8]) (by kernel_rfl) (by simp) (AllReadyIn.cons rfl (fun K hK => ?_) AllReadyIn.nil)
                  go_simp
                  refine hK _ _ ?_; clear hK K
                  refine wpAnyIn_done (by kernel_rfl) ?_ _
                  gi_wp2
                  exact ⟨((HK5.out.trans KD).trans hk5).from _, (HB5.out.trans BD).trans hb5, ⟨_, o ++ [x], hv5, by simpa [toInts] using hr5, HX1.out⟩, ((hbb.trans HB5.out).trans BD).trans hb5⟩
  case done =>
    rintro D W hD ⟨⟨v, o, hv, hrow, hst⟩, hbb⟩ hK
    obtain ⟨A2, c2, rfl⟩ := own_shape hrow
    have hcv := hv.cell
    have hpl := HPs.out.2
    have HRev := Lib.hid (reverse_own (l := toInts o) hrow (by omega))
    gi_wp2_with fail
    refine ⟨trivial, ?_⟩
    gi_at_call 92
    refine (callsIn_wide.2 HRev.out).mono ?_
    rintro e W6 ⟨rfl, hrow6, hg6⟩
    have hv6 : Boxed W6 w1.heap.size 22 (.slice A2 ps.length c2) := hv.kept hg6 (hv.not_row (by decide) hrow)
    have hcv6 := hv6.cell
    have hDl : D < W.heap.size := (Array.getElem?_eq_some_iff.1 hK).1
    have hK6 : W6.heap[D]? = some (.deferred (some [])) := (hg6.block D hDl (fun e' => by
      rcases hrow.2 with ⟨h1, h2⟩ | ⟨g, cap, cur, h1, _, hgb, _⟩
      · rw [h1] at e'; simp [Value.ownBlock] at e'
      · rw [h1] at e'
        simp [Value.ownBlock] at e'
        rw [← e'] at hgb
        rw [hK] at hgb; cases hgb)).trans hK
    have hb6 : BelowBut (w1.heap.size + 1 + 1) w1.heap.size w3 W6 := hbb.trans (.of_below (below_push (Below.refl _ W) hrow (Nat.le_refl _) (by have := hbb.size; omega) hg6))
    gi_wp2_with fail
    have hris := RiseSt.is HPs.out.1 hst
    have hrow7 : W6.ownsRow (w1.heap.size + 1 + 1) 3 1 (.slice A2 ps.length c2) ps.length ((toInts o.reverse).map (Value.int .i64)) := by
      have : toInts o.reverse = (toInts o).reverse := by simp [toInts]
      rw [this]; exact hrow6
    have hwf : ∀ z ∈ toInts o.reverse, (Lit.int .i64 z).wf = true := fun z hz => by
      unfold toInts at hz
      obtain ⟨q, hq, rfl⟩ := List.mem_map.1 hz
      obtain ⟨t, ht, rfl⟩ := List.mem_iff_getElem.1 hq
      have e := hris.2.1 t (by rw [← hris.1]; exact ht)
      rw [List.getD_eq_getElem?_getD, List.getElem?_eq_getElem ht] at e
      simp only [Option.getD_some] at e
      exact int_wf (by unfold I64; omega)
    refine ⟨by simp, .inl ⟨_, _, rfl, run_takeDeferred hK6, ?_⟩⟩
    refine ⟨_, results_tmp2 rfl _ _ _, _, toInts o.reverse, 0, rfl, own_ints (ownsRow_putObj hrow7 _ hK6 rfl) (by rw [toInts_length, hris.1]; omega) hwf, ?_, .inr ⟨hl300, rfl, ps, o.reverse, HPs.out.1, rfl, hris⟩⟩
    exact ((HB1.out.trans (hB3.mono hz1w)).trans (hb6.below (by omega) hz1w)).trans (belowK_b (w := w) (Nat.le_refl _) W6 D _ _ (by omega) hK6 rfl rfl)
end Go.Proofs.Ytgfddolchachkaa
