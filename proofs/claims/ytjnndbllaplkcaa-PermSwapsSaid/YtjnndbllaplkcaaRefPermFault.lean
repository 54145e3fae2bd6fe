/-
  Contract of the reference's PermFault. Conditions: the argument is a list of ints.
-/
import Derived.Test.YtjnndbllaplkcaaSortInts
namespace Go.Proofs.Ytjnndbllaplkcaa
open Go Go.RowKit Go.Dam
set_option linter.unusedVariables false
set_option maxHeartbeats 1000000 in
theorem permFault_any (v : Value) (l : List Int) (cc : Int) (w : World) (B : Nat) (hB : B ≤ w.heap.size) (h : IsInts .i64 w B v l) (hR : PermF l cc) :
    Calls Try.prog 25 #[v] w fun e w' => e = .returned (.int .i64 cc) ∧ Below w.heap.size w w' := by
  obtain ⟨A, c, rfl, hc, hm, hn, hr, hw⟩ := h
  by_cases h1 : 300 < l.length
  · obtain rfl : cc = 1 := by rcases hR with ⟨_, h⟩ | ⟨h, _⟩ | ⟨h, _⟩ <;> first | exact h | omega
    clear hr hw hR
    go_enter Try.func25, Try.ntmps25
    go_wp2_with fail
    go_ret
    exact ⟨rfl, Below.refl _ _⟩
  · have HYes : Hid ((∃ p, IsOrder l p) → cc = 0) := Lib.hid fun hp => by rcases hR with ⟨h, _⟩ | ⟨_, _, h⟩ | ⟨_, h, _⟩ <;> first | exact h | omega | exact absurd hp h
    have HNo : Hid ((¬ ∃ p, IsOrder l p) → cc = 4) := Lib.hid fun hp => by rcases hR with ⟨h, _⟩ | ⟨_, h, _⟩ | ⟨_, _, h⟩ <;> first | exact h | omega | exact absurd h hp
    clear hw hR
    by_cases h0 : l.length = 0
    · obtain rfl : l = [] := List.length_eq_zero_iff.1 h0
      obtain rfl := HYes.out ⟨[], by rw [IsOrder, toInts_eq]; simp⟩
      clear hr h1
      rcases A with _ | ad
      · have HE := Lib.hid fun W => sortInts_own (w := W) (base := w.heap.size) (e := 3) (A := none) (c := 0) (l := []) (World.ownsRow_nil _ _ _ _) (by simp)
        go_enter Try.func25, Try.ntmps25
        go_wp2_with (go_at_call 51; refine (HE.out _).mono ?_; rintro e w1 ⟨rfl, _, hg1⟩)
        clear HE
        go_loop [4, 5, 15] (fun jv zv iv => iv = .int .i64 0) (fun _ _ _ => 0)
        case atStart => rfl
        case round =>
        subst hrel
        go_wp2_with fail
        go_ret
        exact ⟨rfl, (Below.refl _ _).grown hg1 (Nat.le_refl _) (fun k hk => by simp [Value.ownBlock] at hk)⟩
      · have HE := Lib.hid fun W A c h => sortInts_own (w := W) (base := w.heap.size) (e := 3) (A := A) (c := c) (n := 0) (l := []) h (by omega)
        go_enter Try.func25, Try.ntmps25
        go_wp2_with (first
          | (at_builtin; refine wpList_pushM el_int rfl _ _ rfl w.heap.size _ 0 [] (World.ownsRow_nil _ _ _ _) rfl ad 0 c [] rfl rfl (fun j u hu => by simp at hu) (fun u hu => by cases hu) (by omega) (by omega) (Nat.le_refl _) ?_; intro v' w2 hown2 hg2 hl2; obtain ⟨A3, c3, rfl⟩ := own_shape hown2; rw [Nat.zero_add, List.nil_append] at *)
          | (go_at_call 51; refine (HE.out _ _ _ hown2).mono ?_; rintro e w3 ⟨rfl, hown3, hg3⟩))
        have HB : Hid (Below w.heap.size w w3) := Lib.hid (((Below.refl _ _).grown hg2 (Nat.le_refl _) (fun k hk => by simp [Value.ownBlock] at hk)).grown hg3 (by have := hg2.size; omega) (fun k hk => by have := (hown2.lt k hk).1; omega))
        clear HE hown2 hown3 hg2 hg3 hl2
        go_loop [4, 5, 15] (fun jv zv iv => iv = .int .i64 0) (fun _ _ _ => 0)
        case atStart => rfl
        case round =>
        subst hrel
        go_wp2_with fail
        go_ret
        exact ⟨rfl, HB.out⟩
    · obtain ⟨b, off, rfl, hb, hcells⟩ := ints_cells hr (by omega)
      have HN := Lib.hid fun j u (hu : (l.map (Value.int .i64))[j]? = some u) => show w.cell? ((⟨b, off, none⟩ : Addr).add j) = some u from by
        have hj : j < l.length := by
          rcases Nat.lt_or_ge j l.length with g | g
          · exact g
          · rw [List.getElem?_eq_none (by simpa using g)] at hu; cases hu
        have := hcells j hj
        have e : (⟨b, off, none⟩ : Addr).add j = ⟨b, off + j, none⟩ := by unfold Addr.add; split <;> simp_all
        rw [e, this, ← hu]; simp [hj]
      have HS := Lib.hid fun (w' : World) A c h => sortInts_own (w := w') (base := w.heap.size) (e := 3) (A := A) (c := c) (l := l) (n := l.length) h (by omega)
      have HOne : Hid (∀ u ∈ l.map (Value.int .i64), u.oneCell' = true) := Lib.hid fun u hu => by obtain ⟨z, _, rfl⟩ := List.mem_map.1 hu; rfl
      have HLen : Hid ((l.map (Value.int .i64)).length = l.length * 1) := Lib.hid (by simp)
      clear hcells
      go_enter Try.func25, Try.ntmps25
      go_wp2_with (first
        | (at_builtin; refine wpList_pushM el_int rfl _ _ rfl w.heap.size _ 0 [] (World.ownsRow_nil _ _ _ _) rfl ⟨b, off, none⟩ l.length c (l.map (Value.int .i64)) rfl HLen.out HN.out HOne.out (by omega) (by omega) (Nat.le_refl _) ?_; intro v' w2 hown2 hg2 hl2; obtain ⟨A3, c3, rfl⟩ := own_shape hown2; rw [Nat.zero_add, List.nil_append] at *)
        | (go_at_call 51; refine (HS.out _ _ _ hown2).mono ?_; rintro e w3 ⟨rfl, hown3, hg3⟩))
      obtain ⟨g3, cap3, e3, _, hg3s⟩ := hown3.form (by omega)
      obtain ⟨rfl, rfl⟩ : A3 = some ⟨g3, 0, none⟩ ∧ c3 = cap3 := by injection e3 with a b c; exact ⟨a, c⟩
      have HB : Hid (Below w.heap.size w w3) := Lib.hid (((Below.refl _ _).grown hg2 (Nat.le_refl _) (fun k hk => by simp [Value.ownBlock] at hk)).grown hg3 hg2.size (fun k hk => by have := (hown2.lt k hk).1; omega))
      have HCells : Hid (∀ j, j < l.length → w3.cell? ⟨g3, j, none⟩ = some (.int .i64 ((sortI l).getD j 0))) := Lib.hid fun j hj => by
        rw [hown3.cellAt j (by omega)]; simp [sortI_len, hj]
      clear hown2 hown3 hg2 hg3 hl2 HN HS HOne HLen e3 hr
      go_loop [4, 5, 15] (fun jv zv iv => ∃ i : Nat, i ≤ l.length ∧ iv = .int .i64 i ∧ ∀ j, j < i → (sortI l).getD j 0 = (j : Int)) (fun _ _ iv => l.length - (intOf iv).toNat)
      case atStart => exact ⟨0, by omega, rfl, fun j hj => absurd hj (by omega)⟩
      case round =>
        obtain ⟨i, hi, rfl, hok⟩ := hrel
        by_cases hlt : i < l.length
        · have k0 := HCells.out i hlt
          have HOk := Lib.hid hok
          by_cases he : (sortI l).getD i 0 = (i : Int)
          · have HN : Hid (∀ j, j < i + 1 → (sortI l).getD j 0 = (j : Int)) := Lib.hid fun j hj => by
              rcases Nat.lt_or_ge j i with g | g
              · exact hok j g
              · rw [show j = i from by omega]; exact he
            rw [he] at k0
            clear hok he
            go_wp2_with fail
            go_round
            case rel => exact ⟨i + 1, by omega, by go_num, HN.out⟩
            case measure => simp [intOf]; omega
          · obtain rfl := HNo.out (not_order hlt he)
            have t0 : ((sortI l).getD i 0 != (i : Int)) = true := by rw [bne_iff_ne]; exact he
            have t1 : ((sortI l).getD i 0 == (i : Int)) = false := by rw [beq_eq_false_iff_ne]; exact he
            generalize (sortI l).getD i 0 = x at *
            clear hok he
            go_wp2_with fail
            go_ret
            exact ⟨rfl, HB.out⟩
        · obtain rfl : i = l.length := by omega
          obtain rfl := HYes.out (sorted_order hok)
          clear hok
          go_wp2
          go_ret
          exact ⟨rfl, HB.out⟩
end Go.Proofs.Ytjnndbllaplkcaa
