/-
  Contracts of klee.Cross and the reference's KleeCross: the pairs of rectangles that have a place together. Conditions: the rectangles can be read as data.
-/
import Derived.Test.YtmcfdlijkcibbaaKleePlain
import Derived.Test.YtmcfdlijkcibbaaRefRects
import Derived.Deep.CutRange
namespace Go.Dam
open Go Go.RowKit
/-- What Cross answers. -/
def CrossR (n : Nat) (l r : List Int) (c : Int) : Prop := c = rcCode n l ∧ r = if c = 0 then pairAll (meets l) n n else []
theorem CrossR.ex (n : Nat) (l : List Int) : ∃ r c, CrossR n l r c := ⟨_, _, rfl, rfl⟩
/-- Pairs and a code are returned. -/
def GivesPairs (r : List Int) (c : Int) (w : World) (e : Ending) (w' : World) : Prop := ∃ v k, e = .returned (.tuple #[v, .int .i64 c]) ∧ k ≤ 2000 ∧ IsFlat 2 w' w'.heap.size v k r ∧ Below w.heap.size w w'
end Go.Dam
namespace Go.Proofs.Ytmcfdlijkcibbaa
open Go Go.RowKit Go.Dam
set_option linter.unusedVariables false
theorem el_pair : El Try.prog 49 53 (.agg #[.int .i64 0, .int .i64 0]) 2 16 := ⟨Try.underlying49, by kernel_rfl, rfl, by decide⟩
theorem pair_news {w : World} {g : Nat} {a b : Value} {t : TypeId} (hg : g = w.heap.size) : ∀ j u, [a, b][j]? = some u → (w.alloc (.cells #[a, b] t)).cell? ((⟨g, 0, none⟩ : Addr).add j) = some u := by
  subst hg
  intro j u hj
  rw [add_zero_addr]
  match j with
  | 0 => simp at hj; subst hj; simp
  | 1 => simp at hj; subst hj; simp
  | j + 2 => simp at hj
theorem pair_ones {a b : Int} : ∀ u ∈ [Value.int .i64 a, Value.int .i64 b], u.oneCell' = true := by
  intro u hu
  simp at hu
  rcases hu with rfl | rfl <;> rfl
set_option maxHeartbeats 4000000 in
theorem kleeCross_any (v : Value) (n : Nat) (l r : List Int) (cc : Int) (w : World) (B : Nat) (hB : B ≤ w.heap.size) (h : IsFlat 4 w B v n l) (hR : CrossR n l r cc) :
    Calls Try.prog 36 #[v] w (GivesPairs r cc w) := by
  have HC := kleeCheck_any v n l w B hB h
  obtain ⟨A, c, rfl, hc, hm, hn, hl, hr, hw⟩ := h
  obtain ⟨h1, h2⟩ := hR
  rw [← h1] at HC
  by_cases c0 : cc = 0
  rotate_left
  · rw [if_neg c0] at h2
    subst h2
    have t0 : (cc != 0) = true := by simpa using c0
    have HC := Lib.hid HC
    clear hr hl hw h1 c0
    go_enter Try.func36, Try.ntmps36
    go_wp2_with (go_at_call 27; refine (HC.out).mono ?_; rintro e w1 ⟨rfl, hb1⟩)
    go_ret2
    exact ⟨_, 0, rfl, by omega, isFlat_nil _ _ _, hb1⟩
  subst c0
  rw [if_pos rfl] at h2
  subst h2
  obtain ⟨hn1, hfine⟩ := rcCode_ok h1.symm
  have HFine := Lib.hid hfine
  have HC := Lib.hid HC
  clear h1 hfine
  go_enter Try.func36, Try.ntmps36
  go_wp2_with (go_at_call 27; refine (HC.out).mono ?_; rintro e w1 ⟨rfl, hb1⟩)
  have hz1 := hb1.size
  go_loopw [5, 17] (fun ov iv wr => ∃ a k : Nat, a ≤ n ∧ iv = .int .i64 a ∧ wr.ownsRow w1.heap.size 53 2 ov k ((pairAll (meets l) n a).map (Value.int .i64)) ∧ k ≤ 40 * a ∧ Below w.heap.size w wr ∧ w1.heap.size ≤ wr.heap.size) (fun _ iv _ => n - (intOf iv).toNat)
  case atStart => exact ⟨0, 0, by omega, rfl, by rw [pairAll_0]; exact World.ownsRow_nil _ _ _ _, by omega, hb1, Nat.le_refl _⟩
  case round =>
    obtain ⟨wo, rfl⟩ : ∃ wo : World, wo = wr := ⟨_, rfl⟩
    obtain ⟨a, k, ha, rfl, hown, hk, hbel, hsz⟩ := hrel
    obtain ⟨A1, cap1, rfl⟩ := own_shape hown
    have HO := Lib.hid hown
    have HB := Lib.hid hbel
    have hzo := hbel.size
    by_cases hlt : a < n
    · obtain ⟨b, off, rfl, hb, hcells⟩ := flat_cells hr hl (by omega) (by omega)
      have HCells := Lib.hid hcells
      have c0 := (hbel.cell (p := ⟨b, off + a * 4, none⟩) (by simp; omega)).trans (hcells (a * 4) (by omega))
      have c1 := (hbel.cell (p := ⟨b, off + a * 4 + 1, none⟩) (by simp; omega)).trans (hcells (a * 4 + 1) (by omega))
      have c2 := (hbel.cell (p := ⟨b, off + a * 4 + 2, none⟩) (by simp; omega)).trans (hcells (a * 4 + 2) (by omega))
      have c3 := (hbel.cell (p := ⟨b, off + a * 4 + 3, none⟩) (by simp; omega)).trans (hcells (a * 4 + 3) (by omega))
      have hfa := badRc_fine (HFine.out a hlt)
      have hMI := fun m => meets_iff l a m
      have hMN := fun m => meets_not l a m
      have hst := pairRow_none (p := meets l) (a := a) (fun b hb => meets_low l hb) (a + 1) (Nat.le_refl _)
      generalize l.getD (a * 4) 0 = x0 at *
      generalize l.getD (a * 4 + 1) 0 = x1 at *
      generalize l.getD (a * 4 + 2) 0 = x2 at *
      generalize l.getD (a * 4 + 3) 0 = x3 at *
      have HMI := Lib.hid hMI
      have HMN := Lib.hid hMN
      have HSt := Lib.hid hst
      have hne : (Value.slice A1 k cap1).ownBlock ≠ some wo.heap.size := fun e => by have := (hown.lt _ e).2; omega
      have hbx : Box4 (wo.alloc (.cells #[.int .i64 x0, .int .i64 x1, .int .i64 x2, .int .i64 x3] 71)) wo.heap.size (.int .i64 x0) (.int .i64 x1) (.int .i64 x2) (.int .i64 x3) := Box4.new rfl
      have HBx := Lib.hid hbx
      clear hown hbel hcells hMI hMN hst hbx
      go_wp2_with fail
      go_loopw [5, 8] (fun ov bv wr => ∃ m k2 : Nat, a + 1 ≤ m ∧ m ≤ n ∧ bv = .int .i64 m ∧ wr.ownsRow w1.heap.size 53 2 ov k2 ((pairAll (meets l) n a ++ pairRow (meets l) a m).map (Value.int .i64)) ∧ k2 ≤ 40 * a + m ∧ ov.ownBlock ≠ some wo.heap.size ∧
          Box4 wr wo.heap.size (.int .i64 x0) (.int .i64 x1) (.int .i64 x2) (.int .i64 x3) ∧ Below w.heap.size w wr ∧ wo.heap.size < wr.heap.size) (fun _ bv _ => n - (intOf bv).toNat)
      case atStart => exact ⟨a + 1, k, by omega, by omega, by go_num, by rw [HSt.out, List.append_nil]; exact HO.out.alloc _, by omega, hne, HBx.out, HB.out.alloc hzo _, by simp⟩
      case round =>
        obtain ⟨wi, rfl⟩ : ∃ wi : World, wi = wr := ⟨_, rfl⟩
        obtain ⟨m, k2, hm1, hm2, rfl, hown, hk2, hne2, hbx, hbel, hsz2⟩ := hrel
        have HO2 := Lib.hid hown
        have HB2 := Lib.hid hbel
        have HBx2 := Lib.hid hbx
        have hzi := hbel.size
        obtain ⟨A2, cap2, rfl⟩ := own_shape hown
        by_cases hlt2 : m < n
        · obtain ⟨b0, b1, b2, b3⟩ := hbx
          have d0 := (hbel.cell (p := ⟨b, off + m * 4, none⟩) (by simp; omega)).trans (HCells.out (m * 4) (by omega))
          have d1 := (hbel.cell (p := ⟨b, off + m * 4 + 1, none⟩) (by simp; omega)).trans (HCells.out (m * 4 + 1) (by omega))
          have d2 := (hbel.cell (p := ⟨b, off + m * 4 + 2, none⟩) (by simp; omega)).trans (HCells.out (m * 4 + 2) (by omega))
          have d3 := (hbel.cell (p := ⟨b, off + m * 4 + 3, none⟩) (by simp; omega)).trans (HCells.out (m * 4 + 3) (by omega))
          have hfm := badRc_fine (HFine.out m hlt2)
          have hI := HMI.out m
          have hN := HMN.out m
          generalize l.getD (m * 4) 0 = y0 at *
          generalize l.getD (m * 4 + 1) 0 = y1 at *
          generalize l.getD (m * 4 + 2) 0 = y2 at *
          generalize l.getD (m * 4 + 3) 0 = y3 at *
          clear hown hbel
          cases hp : meets l a m with
          | true =>
            have hq := hI.1 hp
            have HS := Lib.hid (pairRow_yes hp)
            have HNe2 := Lib.hid hne2
            clear hI hN hp HBx hne2 hne c0 c1 c2 c3 hr hw HC
            go_upto_region 12 with fail
            go_cut [57] from 34 to 57 (fun v wx => v = .bool true ∧ wx = wi.alloc (.cells #[.int .i64 y0, .int .i64 y1, .int .i64 y2, .int .i64 y3] 71))
            case first =>
              clear HO HB HB2 HO2 HBx2 HNe2 HS
              go_wp2_with fail
              all_goals (go_meet; case rel => first | exact ⟨rfl, rfl⟩ | exact ⟨vbool (by simp <;> omega), rfl⟩)
            case rest =>
              obtain ⟨rfl, rfl⟩ := hcut
              go_wp2_with (at_builtin; refine wpList_pushM el_pair rfl (.tmp 58) (.tmp 62) rfl w1.heap.size _ k2 _ ((HO2.out.alloc _).alloc _) rfl ⟨wi.heap.size + 1, 0, none⟩ 1 _ [.int .i64 (a : Int), .int .i64 (m : Int)] rfl rfl (pair_news (by simp)) pair_ones (by omega) (by omega) (by simp; omega) ?_; intro v' w2 hown2 hg2 hl2)
              have q1 := HB2.out.alloc hzi (.cells #[.int .i64 y0, .int .i64 y1, .int .i64 y2, .int .i64 y3] 71)
              have q2 := q1.alloc (by simp; omega) (.cells #[.int .i64 (a : Int), .int .i64 (m : Int)] 53)
              have q3 := hg2.size
              refine ⟨⟨m + 1, k2 + 1, by omega, by omega, by go_num, ?_, by omega, lies_ne hl2 HNe2.out (by simp; omega), ((HBx2.out.alloc hsz2 _).alloc (by simp; omega) _).grown hg2 (by simp; omega) HNe2.out, below_push q2 ((HO2.out.alloc _).alloc _) hz1 (by simp; omega) hg2, by simp at q3; omega⟩, by simp [intOf]; omega⟩
              rw [HS.out, ← List.append_assoc, List.map_append]; exact hown2
          | false =>
            have hq := hN.1 hp
            have HS := Lib.hid (pairRow_no hp)
            have HNe2 := Lib.hid hne2
            clear hI hN hp HBx hne2 hne c0 c1 c2 c3 hr hw HC
            go_upto_region 12 with fail
            go_cut [57] from 34 to 57 (fun v wx => v = .bool false ∧ wx = wi.alloc (.cells #[.int .i64 y0, .int .i64 y1, .int .i64 y2, .int .i64 y3] 71))
            case first =>
              clear HO HB HB2 HO2 HBx2 HNe2 HS
              go_wp2_with fail
              all_goals (go_meet; case rel => first | exact ⟨rfl, rfl⟩ | exact ⟨vbool (by simp <;> omega), rfl⟩)
            case rest =>
              obtain ⟨rfl, rfl⟩ := hcut
              go_wp2_with fail
              refine ⟨⟨m + 1, k2, by omega, by omega, by go_num, by rw [HS.out]; exact HO2.out.alloc _, by omega, HNe2.out, HBx2.out.alloc hsz2 _, HB2.out.alloc hzi _, by simp; omega⟩, by simp [intOf]; omega⟩
        · obtain rfl : m = n := by omega
          have HP := Lib.hid (pairAll_succ (meets l) m a)
          have HNe2 := Lib.hid hne2
          clear hown hbel hbx hne2 hne
          go_wp2_with fail
          refine ⟨⟨a + 1, k2, by omega, by go_num, by rw [HP.out]; exact HO2.out, by omega, HB2.out, by omega⟩, by simp [intOf]; omega⟩
    · obtain rfl : a = n := by omega
      clear hown hbel
      go_wp2_with fail
      go_ret2
      exact ⟨_, k, rfl, by omega, own_flat HO.out (by omega) (pairAll_wf (by omega) _ (by omega)), HB.out⟩
end Go.Proofs.Ytmcfdlijkcibbaa
