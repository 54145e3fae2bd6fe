/-
  Contract of stab.Most: how many spans have one number, and the least such number, or the code of what is refused. Conditions: the spans can be read as data.
-/
import Derived.Test.YtgfddolchachkaaMStabMosts18
namespace Go.Dam
open Go Go.RowKit
theorem loS_eq (l : List Int) (i : Nat) : loS l i = l.getD (i * 2) 0 := by unfold loS; rfl
theorem hiS_eq (l : List Int) (i : Nat) : hiS l i = l.getD (i * 2 + 1) 0 := by unfold hiS; rfl
/-- What Most answers, codes and all. -/
def MostAns (n : Nat) (l : List Int) (m a c : Int) : Prop := (spCode n l ≠ 0 ∧ c = spCode n l ∧ m = 0 ∧ a = 0) ∨ (spCode n l = 0 ∧ n = 0 ∧ c = 7 ∧ m = 0 ∧ a = 0) ∨ (spCode n l = 0 ∧ 0 < n ∧ c = 0 ∧ ∃ k : Nat, m = k ∧ MostR l n k a)
theorem sp_lohi {n : Nat} {l : List Int} (h : spCode n l = 0) : n ≤ 100 ∧ ∀ i, i < n → loS l i ≤ hiS l i :=
  ⟨(spCode_ok h).1, fun i hi => by unfold loS hiS; exact (badSp_fine ((spCode_ok h).2 i hi)).2.2⟩
theorem MostAns.ex (n : Nat) (l : List Int) : ∃ m a c, MostAns n l m a c := by
  by_cases h0 : spCode n l = 0
  · rcases Nat.eq_zero_or_pos n with h | h
    · exact ⟨0, 0, 7, .inr (.inl ⟨h0, h, rfl, rfl, rfl⟩)⟩
    · obtain ⟨m, a, hm⟩ := MostR.ex (sp_lohi h0).2 h
      exact ⟨m, a, 0, .inr (.inr ⟨h0, h, rfl, m, rfl, hm⟩)⟩
  · exact ⟨0, 0, _, .inl ⟨h0, rfl, rfl, rfl⟩⟩
/-- How far the sweep has come with the ends: those ahead of e lie below x. -/
def EndsTo (l : List Int) (A : List Nat) (e : Nat) (x : Int) : Prop := ∀ u, u < e → hiS l (A.getD u 0) < x
theorem ends_more {l : List Int} {n : Nat} {A : List Nat} {e : Nat} {x : Int} (hA : ByK (hiS l) n A) {i : Nat} (hi : i < n) (hx : x ≤ hiS l i) (h : EndsTo l A e x) (he : e ≤ n) : e < n := by
  obtain ⟨u, hu, e1⟩ := hA.at_ hi
  rcases Nat.lt_or_ge u e with c | c
  · have := h u c
    rw [e1] at this
    omega
  · omega
theorem ends_cut {l : List Int} {n : Nat} {A : List Nat} {e : Nat} {x : Int} (hA : ByK (hiS l) n A) (h : EndsTo l A e x) (he : e < n) (hx : x ≤ hiS l (A.getD e 0)) : CutR l n A x e :=
  ⟨by omega, h, fun u h1 h2 => by
    rcases Nat.eq_or_lt_of_le h1 with c | c
    · rw [← c]; exact hx
    · exact Int.le_trans hx (hA.2 e u c h2)⟩
end Go.Dam
namespace Go.Proofs.Ytgfddolchachkaa
open Go Go.RowKit Go.Dam
set_option linter.unusedVariables false
set_option maxHeartbeats 4000000 in
theorem stabMost_any (v : Value) (n : Nat) (l : List Int) (m a cc : Int) (w : World) (B : Nat) (hB : B ≤ w.heap.size) (h : IsFlat 2 w B v n l) (hR : MostAns n l m a cc) :
    Calls Try.prog 21 #[v] w fun e w' => e = .returned (.tuple #[.int .i64 m, .int .i64 a, .int .i64 cc]) ∧ Below w.heap.size w w' := by
  have HC := Lib.hid (stabCheck_any v n l w B hB h)
  rcases hR with ⟨h0, rfl, rfl, rfl⟩ | ⟨h0, rfl, rfl, rfl, rfl⟩ | ⟨h0, hn0, rfl, k, rfl, hM⟩
  · obtain ⟨A, c, rfl, hc, hm, hn, hl, hr, hw⟩ := h
    generalize spCode n l = cc at *
    have t0 : (cc != 0) = true := bne_iff_ne.2 h0
    clear h0 hl hr hw
    go_enter Try.func21, Try.ntmps21
    go_wp2_with (go_at_call 53; refine (HC.out).mono ?_; rintro e w1 ⟨rfl, hb1⟩)
    refine bodyPost_ret (results_tmp3 rfl _ _ _) rfl ?_
    exact ⟨rfl, hb1⟩
  · obtain ⟨A, c, rfl, hc, hm, hn, hl, hr, hw⟩ := h
    rw [h0] at HC
    clear h0 hl hr hw
    go_enter Try.func21, Try.ntmps21
    go_wp2_with (go_at_call 53; refine (HC.out).mono ?_; rintro e w1 ⟨rfl, hb1⟩)
    refine bodyPost_ret (results_tmp3 rfl _ _ _) rfl ?_
    exact ⟨rfl, hb1⟩
  · obtain ⟨hn100, hok⟩ := sp_lohi h0
    have hco := (spCode_ok h0).2
    rw [h0] at HC
    have HP := Lib.hid fun (bf : Nat) kf (hk : KeyFn bf kf) w1 (hb : Below w.heap.size w w1) => stabPlaces_any bf kf hk v n l w1 B (Nat.le_trans hB hb.size) (h.below (hb.mono hB)) hn100
    obtain ⟨A, c, rfl, hc, hm, hn, hl, hr, hw⟩ := h
    obtain ⟨bk, off, rfl, hbk, hcells⟩ := flat_cells hr hl (by omega) (by omega)
    have HCs := Lib.hid hcells
    have HOk := Lib.hid hok
    have HM := Lib.hid hM
    have HCo := Lib.hid hco
    have t0 : ((n : Int) == 0) = false := beq_eq_false_iff_ne.2 (by omega)
    clear h0 hl hr hw hcells hok hM hco
    go_enter Try.func21, Try.ntmps21
    go_wp2_with (first
      | (go_at_call 53; refine (HC.out).mono ?_; rintro e w1 ⟨rfl, hb1⟩; have HB1 := Lib.hid hb1; clear hb1)
      | (go_at_call 54; with_reducible refine (HP.out 55 _ keyHigh w1 HB1.out).mono ?_; rintro e w2 ⟨v2, ra, rfl, hka, hoa, hb2⟩; have HA := Lib.hid hka; have HOA := Lib.hid hoa; have HB2 := Lib.hid (HB1.out.trans (hb2.mono HB1.out.size)); obtain ⟨A2, c2, rfl⟩ := own_shape hoa; clear hka hoa hb2)
      | (go_at_call 54; with_reducible refine (HP.out 56 _ keyLow w2 HB2.out).mono ?_; rintro e w3 ⟨v3, rb, rfl, hkb, hob, hb3⟩; have HBk := Lib.hid hkb; have HOB := Lib.hid hob; have HB23 := Lib.hid hb3; have HB3 := Lib.hid (HB2.out.trans (hb3.mono HB2.out.size)); obtain ⟨A3, c3, rfl⟩ := own_shape hob; clear hkb hob hb3))
    obtain ⟨ga, ca, hva, hba, hlta⟩ := HOA.out.form (by omega)
    injection hva with hA2 _ hc2
    subst hA2 hc2
    obtain ⟨gb, cb, hvb, hbb, hltb⟩ := HOB.out.form (by omega)
    injection hvb with hA3 _ hc3
    subst hA3 hc3
    have hcn2 : n ≤ c2 := own_cap HOA.out
    have HAc : Hid (∀ u, u < n → w3.cell? ⟨ga, u, none⟩ = some (.int .i64 ((ra.getD u 0 : Nat) : Int))) := Lib.hid fun u hu => by
      refine (HB23.out.cell (p := ⟨ga, u, none⟩) hlta).trans ?_
      rw [HOA.out.cellAt u (by omega), List.getElem?_map]
      have h1 := natS_at ra u
      rw [List.getD_eq_getElem?_getD, List.getElem?_eq_getElem (by rw [natS_len, HA.out.len]; exact hu)] at h1
      rw [List.getElem?_eq_getElem (by rw [natS_len, HA.out.len]; exact hu), ← h1]; rfl
    have HBc : Hid (∀ u, u < n → w3.cell? ⟨gb, u, none⟩ = some (.int .i64 ((rb.getD u 0 : Nat) : Int))) := Lib.hid fun u hu => by
      rw [HOB.out.cellAt u (by omega), List.getElem?_map]
      have h1 := natS_at rb u
      rw [List.getD_eq_getElem?_getD, List.getElem?_eq_getElem (by rw [natS_len, HBk.out.len]; exact hu)] at h1
      rw [List.getElem?_eq_getElem (by rw [natS_len, HBk.out.len]; exact hu), ← h1]; rfl
    have HLc : Hid (∀ i, i < n → w3.cell? ⟨bk, off + i * 2, none⟩ = some (.int .i64 (loS l i)) ∧ w3.cell? ⟨bk, off + i * 2 + 1, none⟩ = some (.int .i64 (hiS l i))) := Lib.hid fun i hi =>
      ⟨(HB3.out.cell (p := ⟨bk, off + i * 2, none⟩) (by show bk < _; omega)).trans (by rw [loS_eq]; exact HCs.out (i * 2) (by omega)), (HB3.out.cell (p := ⟨bk, off + i * 2 + 1, none⟩) (by show bk < _; omega)).trans (by rw [hiS_eq]; exact HCs.out (i * 2 + 1) (by omega))⟩
    have HKa : Hid (ByK (hiS l) n ra) := Lib.hid (by rw [show hiS l = fun i => l.getD (i * 2 + 1) 0 from funext (hiS_eq l)]; exact HA.out)
    have HKb : Hid (ByK (loS l) n rb) := Lib.hid (by rw [show loS l = fun i => l.getD (i * 2) 0 from funext (loS_eq l)]; exact HBk.out)
    clear HOA HOB HA HBk HB1 HB2 HB23 HP HC hba hbb hlta hltb HCs t0
    go_loopw [2, 3, 6, 7, 9, 23] (fun mv av ev ov _ iv wr => ∃ (k e me ce q : Nat) (many at_ : Int), k ≤ n ∧ iv = .int .i64 k ∧ mv = .int .i64 many ∧ av = .int .i64 at_ ∧ ev = .slice (some ⟨ga, e, none⟩) me ce ∧ e + me = n ∧ e + ce = c2 ∧ 0 < me ∧ ov = .int .i64 ((k : Int) - (e : Int)) ∧ Hid (Sweep l n rb k many at_) ∧ Hid (∀ x, (∀ j, j < k → loS l (rb.getD j 0) ≤ x) → EndsTo l ra e x) ∧ wr = w3.drewN q) (fun _ _ _ _ _ iv _ => n - (intOf iv).toNat)
    case atStart => exact ⟨0, 0, n, c2, 0, 0, 0, by omega, rfl, rfl, rfl, rfl, by omega, by omega, by omega, rfl, Lib.hid (.inl ⟨rfl, rfl, rfl⟩), Lib.hid (fun x _ u hu => absurd hu (by omega)), rfl⟩
    case round =>
      obtain ⟨k2, e, me, ce, q, many, at_, hk2, rfl, rfl, rfl, rfl, hme, hce, hm0, rfl, HS, HE, rfl⟩ := hrel
      by_cases hlt : k2 < n
      · have hpl : rb.getD k2 0 < n := HKb.out.lt hlt
        have b0 : w3.cell? ⟨gb, k2, none⟩ = some (.int .i64 ((rb.getD k2 0 : Nat) : Int)) := HBc.out k2 hlt
        obtain ⟨x, hx⟩ : ∃ x, x = loS l (rb.getD k2 0) := ⟨_, rfl⟩
        have l0 := (HLc.out _ hpl).1
        have HX := Lib.hid hx
        have HEx : Hid (EndsTo l ra e x) := Lib.hid (HE.out x fun j hj => by rw [hx]; exact HKb.out.2 j k2 hj hlt)
        have HXle : Hid (x ≤ hiS l (rb.getD k2 0)) := Lib.hid (by rw [hx]; exact HOk.out _ hpl)
        rw [← hx] at l0
        obtain ⟨i, hi⟩ : ∃ i, i = rb.getD k2 0 := ⟨_, rfl⟩
        have HI := Lib.hid hi
        rw [← hi] at b0 hpl l0 HXle
        clear hx hi
        go_wp2
        go_loopw [6, 7] (fun ev ov wr => ∃ (e me ce q : Nat), ev = .slice (some ⟨ga, e, none⟩) me ce ∧ e + me = n ∧ e + ce = c2 ∧ 0 < me ∧ ov = .int .i64 ((k2 : Int) + 1 - (e : Int)) ∧ Hid (EndsTo l ra e x) ∧ wr = w3.drewN q) (fun ev _ _ => match ev with | .slice _ m _ => m | _ => 0)
        case atStart => exact ⟨e, me, ce, q, rfl, hme, hce, hm0, by congr 1; omega, HEx, rfl⟩
        case round =>
          clear hme hce hm0 HE HEx b0
          obtain ⟨e, me, ce, q, rfl, hme, hce, hm0, rfl, HE, rfl⟩ := hrel
          have hpe : ra.getD e 0 < n := HKa.out.lt (by omega)
          have a0 : w3.cell? ⟨ga, e, none⟩ = some (.int .i64 ((ra.getD e 0 : Nat) : Int)) := HAc.out e (by omega)
          have l1 : w3.cell? ⟨bk, off + ra.getD e 0 * 2 + 1, none⟩ = some (.int .i64 (hiS l (ra.getD e 0))) := (HLc.out _ hpe).2
          have l2 : w3.cell? ⟨bk, off + i * 2, none⟩ = some (.int .i64 x) := l0
          obtain ⟨y, hy⟩ : ∃ y, y = hiS l (ra.getD e 0) := ⟨_, rfl⟩
          rw [← hy] at l1
          have HY := Lib.hid hy
          obtain ⟨j, hj⟩ : ∃ j, j = ra.getD e 0 := ⟨_, rfl⟩
          rw [← hj] at hpe a0 l1
          clear hy hj
          have pe : (0 : Int) ≤ (j : Int) := by omega
          have pj : (j : Int) < (n : Int) := by omega
          have pi : (i : Int) < (n : Int) := by omega
          have p0 : (0 : Int) < (me : Int) := by omega
          by_cases hyx : y < x
          · have HMore : Hid (e + 1 < n) := Lib.hid (by
              have h1 : EndsTo l ra (e + 1) x := fun u hu => by
                rcases Nat.lt_or_ge u e with c | c
                · exact HE.out u c
                · rw [show u = e from by omega, ← HY.out]; exact hyx
              exact ends_more HKa.out hpl HXle.out h1 (by omega))
            have HE2 : Hid (EndsTo l ra (e + 1) x) := Lib.hid fun u hu => by
              rcases Nat.lt_or_ge u e with c | c
              · exact HE.out u c
              · rw [show u = e from by omega, ← HY.out]; exact hyx
            have hmore := HMore.out
            go_wp2_with fail
            go_quiet (fail)
            go_wp2
            go_roundw
            case rel => exact ⟨e + 1, me - 1, ce - 1, q + nq, rfl, by omega, by omega, by omega, by congr 1; omega, HE2, rfl⟩
            case measure => show me - 1 < me; omega
          · have HCut : Hid (CutR l n ra x e) := Lib.hid (ends_cut HKa.out HE.out (by omega) (by rw [← HY.out]; omega))
            have HOp : Hid (openK l n rb k2 = (k2 : Int) + 1 - (e : Int)) := Lib.hid (by
              unfold openK
              rw [← HX.out, HCut.out.count HKa.out])
            have HE3 : Hid (∀ x, (∀ j, j < k2 + 1 → loS l (rb.getD j 0) ≤ x) → EndsTo l ra e x) := Lib.hid fun z hz u hu => by
              have h1 := HE.out u hu
              have h2 := hz k2 (by omega)
              rw [← HX.out] at h2
              omega
            by_cases hgt : many < (k2 : Int) + 1 - (e : Int)
            · have t9 : decide ((k2 : Int) + 1 - (e : Int) > many) = true := decide_eq_true hgt
              go_wp2_with fail
              go_quiet (fail)
              go_wp2_with fail
              go_quiet (fail)
              try simp only [Act.put, List.getElem_toArray, List.getElem_cons_succ, List.getElem_cons_zero, Array.set!_eq_setIfInBounds, List.setIfInBounds_toArray, List.set_cons_succ, List.set_cons_zero]
              go_wp2
              go_roundw
              case rel => exact ⟨k2 + 1, e, me, ce, _, _, x, by omega, by go_num, rfl, rfl, rfl, hme, hce, hm0, (by first | rfl | (congr 1; omega)), Lib.hid (by have := HS.out.take (by rw [HOp.out]; exact hgt); rw [HOp.out, ← HX.out] at this; exact this), HE3, rfl⟩
              case measure => simp [intOf]; omega
            · have t9 : decide ((k2 : Int) + 1 - (e : Int) > many) = false := decide_eq_false hgt
              go_wp2_with fail
              go_quiet (fail)
              go_wp2
              go_roundw
              case rel => exact ⟨k2 + 1, e, me, ce, _, many, at_, by omega, by go_num, rfl, rfl, rfl, hme, hce, hm0, (by first | rfl | (congr 1; omega)), Lib.hid (HS.out.leave HKb.out hlt (by rw [HOp.out]; omega) (by
                rcases Nat.eq_zero_or_pos k2 with h | h
                · subst h; right; rw [open_first HOk.out HKb.out hn0]; omega
                · exact .inl h)), HE3, rfl⟩
              case measure => simp [intOf]; omega
      · obtain rfl : k2 = n := by omega
        obtain ⟨mN, hmN, hMR⟩ := HS.out.done HOk.out HKb.out hn0
        obtain ⟨rfl, rfl⟩ := HM.out.uniq hMR
        subst hmN
        go_wp2
        refine bodyPost_ret (results_tmp3 rfl _ _ _) rfl ?_
        exact ⟨rfl, below_drewN HB3.out _⟩
end Go.Proofs.Ytgfddolchachkaa
