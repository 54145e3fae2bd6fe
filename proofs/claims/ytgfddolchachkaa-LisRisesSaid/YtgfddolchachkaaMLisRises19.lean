/-
  Contracts of lis.Lengths, lis.Falls and the reference's LisLengths, and the walk of the law LisLengths. Conditions: the argument is a list of ints.
-/
import Derived.Test.YtgfddolchachkaaMLisRises10
namespace Go.Dam
/-- What Lengths answers. -/
def LisR (l : List Int) (r : List Int) (c : Int) : Prop := (300 < l.length ∧ r = [] ∧ c = 1) ∨ (l.length ≤ 300 ∧ r = toInts (lensTo (fun k => l.getD k 0) l.length) ∧ c = 0)
theorem LisR.ex (l : List Int) : ∃ r c, LisR l r c := by
  by_cases h : 300 < l.length
  · exact ⟨_, _, .inl ⟨h, rfl, rfl⟩⟩
  · exact ⟨_, _, .inr ⟨by omega, rfl, rfl⟩⟩
end Go.Dam
namespace Go.Proofs.Ytgfddolchachkaa
open Go Go.RowKit Go.Dam
set_option linter.unusedVariables false
/-- What Falls returns. -/
def GivesFalls (l : List Int) (w : World) (e : Ending) (w' : World) : Prop :=
  ∃ v c ls, e = .returned (.tuple #[v, .int .i64 c]) ∧ IsRows w' w'.heap.size v ls ∧ Below w.heap.size w w' ∧ ((300 < l.length ∧ ls = [] ∧ c = 1) ∨ (l.length ≤ 300 ∧ c = 0 ∧ ∃ ps, Piles (fun k => l.getD k 0) l.length ps ∧ ps.length ≤ l.length ∧ ls = toRows ps))
theorem piles_wf {f : Nat → Int} {n : Nat} {ps : List (List Nat)} (hn : n ≤ 1000) (h : Piles f n ps) : ∀ r ∈ toRows ps, r.length ≤ 140737488351232 ∧ ∀ z ∈ r, (Lit.int .i64 z).wf = true := by
  intro r hr
  obtain ⟨k, hk, rfl⟩ := List.mem_iff_getElem.1 hr
  have hk2 : k < ps.length := by rw [toRows_length] at hk; exact hk
  have e : (toRows ps)[k] = toInts (ps.getD k []) := by rw [← toRows_at]; simp [hk]
  rw [e]
  have h1 := h.len_le hk2
  have h2 := h.mem k hk2
  clear e hr
  generalize ps.getD k [] = p at *
  refine ⟨by rw [toInts_length]; omega, fun z hz => ?_⟩
  obtain ⟨j, hj, rfl⟩ := List.mem_iff_getElem.1 hz
  rw [toInts_length] at hj
  have e2 : (toInts p)[j]'(by rw [toInts_length]; exact hj) = ((p.getD j 0 : Nat) : Int) := by
    have h3 : j < (toInts p).length := by rw [toInts_length]; exact hj
    rw [← toInts_at hj, List.getD_eq_getElem?_getD, List.getElem?_eq_getElem h3]; rfl
  rw [e2]
  have hm : p.getD j 0 ∈ p := by
    rw [List.getD_eq_getElem?_getD, List.getElem?_eq_getElem hj]; exact List.getElem_mem hj
  have := ((h2 _).1 hm).1
  exact int_wf (by unfold I64; omega)
set_option maxHeartbeats 1000000 in
theorem refLis_any (v : Value) (l r : List Int) (cc : Int) (w : World) (B : Nat) (hB : B ≤ w.heap.size) (h : IsInts .i64 w B v l) (hR : LisR l r cc) :
    Calls Try.prog 41 #[v] w (GivesInts r cc w) := by
  obtain ⟨A, c, rfl, hc, hm, hn, hr, hw⟩ := h
  rcases hR with ⟨h1, rfl, rfl⟩ | ⟨h1, rfl, rfl⟩
  · clear hr hw
    go_enter Try.func41, Try.ntmps41
    go_wp2_with fail
    go_ret2
    exact ⟨_, rfl, isInts_nil _ _ _, Below.refl _ _⟩
  · obtain ⟨F, hF⟩ : ∃ F : Nat → Int, F = fun k => l.getD k 0 := ⟨_, rfl⟩
    have HF : Hid (∀ k, l.getD k 0 = F k) := Lib.hid fun k => by rw [hF]
    have HFF := Lib.hid hF
    rw [← hF]
    clear hw hF
    go_enter Try.func41, Try.ntmps41
    go_wp2_with fail
    go_loopw [4, 14] (fun ov iv wr => ∃ i : Nat, i ≤ l.length ∧ iv = .int .i64 i ∧ wr.ownsRow w.heap.size 3 1 ov i ((toInts (lensTo F i)).map (Value.int .i64)) ∧ Below w.heap.size w wr) (fun _ iv _ => l.length - (intOf iv).toNat)
    case atStart => exact ⟨0, by omega, rfl, by rw [lensTo_0, toInts_nil]; exact World.ownsRow_nil _ _ _ _, Below.refl _ _⟩
    case round =>
      obtain ⟨i, hi, rfl, hown, hbel⟩ := hrel
      obtain ⟨A2, c2, rfl⟩ := own_shape hown
      have HO := Lib.hid hown
      have HB := Lib.hid hbel
      have hz := hbel.size
      by_cases hlt : i < l.length
      · obtain ⟨b, off, rfl, hb, hcells⟩ := ints_cells hr (by omega)
        have HCells := Lib.hid fun k hk => (hbel.cell (p := ⟨b, off + k, none⟩) (by simp; omega)).trans (hcells k hk)
        have k0 := HCells.out i hlt
        rw [HF.out i] at k0
        have HS := Lib.hid (lensTo_succ F i)
        clear hown hbel hcells hr
        go_wp2_with fail
        go_loop [7, 8] (fun bv kv => ∃ k : Nat, k ≤ i ∧ kv = .int .i64 k ∧ bv = .int .i64 ((bestTo F (lensTo F i) (F i) k : Nat) : Int)) (fun _ kv => i - (intOf kv).toNat)
        case atStart => exact ⟨0, by omega, rfl, by rw [bestTo_0]; rfl⟩
        case round =>
          obtain ⟨k, hk, rfl, rfl⟩ := hrel
          have hble : bestTo F (lensTo F i) (F i) k ≤ 1000 := bestTo_le fun j hj _ => by have := (lensTo_le (f := F) (show j < i by omega)).2; omega
          by_cases hlt2 : k < i
          · have q0 := HCells.out k (by omega)
            rw [HF.out k] at q0
            obtain ⟨g, cap, hf, hgB, hgl⟩ := HO.out.form (by omega)
            obtain ⟨rfl, rfl⟩ : A2 = some ⟨g, 0, none⟩ ∧ c2 = cap := by injection hf with a b c; exact ⟨a, c⟩
            have q1 : wr.cell? ⟨g, k, none⟩ = some (.int .i64 (((lensTo F i).getD k 0 : Nat) : Int)) := by
              rw [HO.out.cellAt k (by omega), ← toInts_at (by rw [lensTo_length]; exact hlt2)]
              have : k < (toInts (lensTo F i)).length := by rw [toInts_length, lensTo_length]; exact hlt2
              simp [this]
            by_cases ha : F k < F i
            · by_cases hb2 : bestTo F (lensTo F i) (F i) k < (lensTo F i).getD k 0
              · have HN := Lib.hid (bestTo_yes ha hb2)
                generalize bestTo F (lensTo F i) (F i) k = y at *
                generalize (lensTo F i).getD k 0 = z at *
                generalize F k = x at *
                clear hf
                go_wp2_with fail
                go_round
                case rel => exact ⟨k + 1, by omega, by go_num, by rw [HN.out]⟩
                case measure => simp [intOf]; omega
              · have HN := Lib.hid (bestTo_no2 hb2 (x := F i))
                have t2 : decide (bestTo F (lensTo F i) (F i) k < (lensTo F i).getD k 0) = false := by rw [decide_eq_false_iff_not]; exact hb2
                generalize bestTo F (lensTo F i) (F i) k = y at *
                generalize (lensTo F i).getD k 0 = z at *
                generalize F k = x at *
                clear hf
                go_wp2_with fail
                go_round
                case rel => exact ⟨k + 1, by omega, by go_num, by rw [HN.out]⟩
                case measure => simp [intOf]; omega
            · have HN := Lib.hid (bestTo_no1 (L := lensTo F i) ha)
              have t2 : decide (F k < F i) = false := by rw [decide_eq_false_iff_not]; exact ha
              generalize bestTo F (lensTo F i) (F i) k = y at *
              generalize (lensTo F i).getD k 0 = z at *
              generalize F k = x at *
              clear hf
              go_wp2_with fail
              go_round
              case rel => exact ⟨k + 1, by omega, by go_num, by rw [HN.out]⟩
              case measure => simp [intOf]; omega
          · obtain rfl : k = i := by omega
            generalize bestTo F (lensTo F k) (F k) k = y at *
            go_wp2_with (at_builtin; refine wpList_push el_int rfl (.tmp 42) (.tmp 45) rfl w.heap.size _ k _ (HO.out.alloc _) rfl wr.heap.size 1 _ rfl (by simp; rfl) rfl (by omega) (by omega) (by simp; omega) ?_; intro v' w2 hown2 hg2)
            refine ⟨⟨k + 1, by omega, by go_num, ?_, below_push (HB.out.alloc hz _) (HO.out.alloc _) (Nat.le_refl _) (by simp; omega) hg2⟩, by simp [intOf]; omega⟩
            rw [HS.out, toInts_snoc, List.map_append]; exact hown2
      · obtain rfl : i = l.length := by omega
        clear hown hbel hr
        go_wp2_with fail
        go_ret2
        refine ⟨_, rfl, ?_, HB.out⟩
        have := own_ints HO.out (by rw [toInts_length, lensTo_length]; omega) (lens_wf (by omega))
        exact this
end Go.Proofs.Ytgfddolchachkaa
