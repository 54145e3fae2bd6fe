/-
  Contracts of perm.Swaps and the reference's PermSwaps, and the walk of the law PermSwaps. Conditions: the argument is a list of ints.
-/
import Derived.Test.YtjnndbllaplkcaaPermSorted
namespace Go.Dam
set_option linter.unusedVariables false
/-- What Swaps answers. -/
def SwapR (l : List Int) (x c : Int) : Prop := (PermF l c ∧ c ≠ 0 ∧ x = 0) ∨ (PermF l 0 ∧ c = 0 ∧ l.length ≤ 300 ∧ x = ((invC l : Nat) : Int))
theorem SwapR.ex (l : List Int) : ∃ x c, SwapR l x c := by
  obtain ⟨c, hc⟩ := PermF.ex l
  rcases hc.cases with h | ⟨rfl, h, p, hp, hl⟩
  · exact ⟨_, _, .inl ⟨hc, h, rfl⟩⟩
  · exact ⟨_, _, .inr ⟨h, rfl, hl, rfl⟩⟩
end Go.Dam
namespace Go.Proofs.Ytjnndbllaplkcaa
open Go Go.RowKit Go.Dam
set_option linter.unusedVariables false
set_option maxHeartbeats 400000 in
theorem permSwaps_any (v : Value) (l : List Int) (x cc : Int) (w : World) (B : Nat) (hB : B ≤ w.heap.size) (h : IsInts .i64 w B v l) (hR : SwapR l x cc) :
    Calls Try.prog 36 #[v] w fun e w' => e = .returned (.tuple #[.int .i64 x, .int .i64 cc]) ∧ Below w.heap.size w w' := by
  have HP := fun c hc => permCheck_any v l c w B hB h hc
  have HS := fun hl W (hb : Below w.heap.size w W) => permSorted_any l.length v l W w.heap.size (Nat.le_refl _) hl hb.size ((h.more hB).below hb)
  obtain ⟨A, c, rfl, hc, hm, hn, hr, hw⟩ := h
  rcases hR with ⟨hf, hc0, rfl⟩ | ⟨hf, rfl, hl, rfl⟩
  · have HP := Lib.hid (HP _ hf)
    have t0 : (cc != 0) = true := by simpa using hc0
    clear hr hw hf hc0 HS
    go_enter Try.func36, Try.ntmps36
    go_wp2_with (go_at_call 24; refine (HP.out).mono ?_; rintro e w1 ⟨rfl, hb1⟩)
    go_ret2
    exact ⟨rfl, hb1⟩
  · have HP := Lib.hid (HP _ hf)
    have HS := Lib.hid (HS hl)
    clear hr hw hf
    go_enter Try.func36, Try.ntmps36
    go_wp2_with (first
      | (go_at_call 24; refine (HP.out).mono ?_; rintro e w1 ⟨rfl, hb1⟩)
      | (go_at_call 54; refine (HS.out _ hb1).mono ?_; rintro e w2 ⟨u2, rfl, hu2, hb2⟩))
    go_ret2
    exact ⟨rfl, hb1.trans (hb2.mono hb1.size)⟩
set_option maxHeartbeats 1000000 in
theorem refPermSwaps_any (v : Value) (l : List Int) (x cc : Int) (w : World) (B : Nat) (hB : B ≤ w.heap.size) (h : IsInts .i64 w B v l) (hR : SwapR l x cc) :
    Calls Try.prog 37 #[v] w fun e w' => e = .returned (.tuple #[.int .i64 x, .int .i64 cc]) ∧ Below w.heap.size w w' := by
  have HP := fun c hc => permFault_any v l c w B hB h hc
  obtain ⟨A, c, rfl, hc, hm, hn, hr, hw⟩ := h
  rcases hR with ⟨hf, hc0, rfl⟩ | ⟨hf, rfl, hl, rfl⟩
  · have HP := Lib.hid (HP _ hf)
    have t0 : (cc != 0) = true := by simpa using hc0
    clear hr hw hf hc0
    go_enter Try.func37, Try.ntmps37
    go_wp2_with (go_at_call 25; refine (HP.out).mono ?_; rintro e w1 ⟨rfl, hb1⟩)
    go_ret2
    exact ⟨rfl, hb1⟩
  · have HP := Lib.hid (HP _ hf)
    clear hw hf
    go_enter Try.func37, Try.ntmps37
    go_wp2_with (go_at_call 25; refine (HP.out).mono ?_; rintro e w1 ⟨rfl, hb1⟩)
    have hz1 := hb1.size
    have hsq : l.length * l.length ≤ 90000 := Nat.mul_le_mul hl hl
    go_loopw [5, 6, 7, 15] (fun nv zv kv iv wr => ∃ i : Nat, i ≤ l.length ∧ iv = .int .i64 i ∧ nv = .int .i64 ((pairsTo l i : Nat) : Int) ∧ Below w.heap.size w wr) (fun _ _ _ iv _ => l.length - (intOf iv).toNat)
    case atStart => exact ⟨0, by omega, rfl, by rw [pairsTo_0]; rfl, hb1⟩
    case round =>
      obtain ⟨wo, rfl⟩ : ∃ wo : World, wo = wr := ⟨_, rfl⟩
      obtain ⟨i, hi, rfl, rfl, hbel⟩ := hrel
      have hpt := pairsTo_le (l := l) hi
      have hpt2 : pairsTo l i ≤ 90000 := Nat.le_trans hpt hsq
      by_cases hlt : i < l.length
      · obtain ⟨b, off, rfl, hb, hcells⟩ := ints_cells hr (by omega)
        have HAt : Hid (∀ W, Below w.heap.size w W → ∀ k, k < l.length → W.cell? ⟨b, off + k, none⟩ = some (.int .i64 (l.getD k 0))) := Lib.hid fun W hW k hk => (hW.cell (p := ⟨b, off + k, none⟩) (by simp; omega)).trans (hcells k hk)
        have HLe := Lib.hid fun k => pairsAt_le l i k
        have HLY := Lib.hid fun k hk => pairsAt_yes (l := l) (i := i) (k := k) hk
        have HLN := Lib.hid fun k hk => pairsAt_no (l := l) (i := i) (k := k) hk
        have HL0 := Lib.hid (pairsAt_0 l i)
        have HLend := Lib.hid (pairsAt_end (l := l) (i := i))
        have HB := Lib.hid hbel
        generalize hnn : pairsTo l i = nn at *
        clear hcells hpt hbel hnn hsq
        go_wp2_with fail
        go_loopw [5, 7] (fun nv kv wr => ∃ k : Nat, i + 1 ≤ k ∧ k ≤ l.length ∧ kv = .int .i64 k ∧ nv = .int .i64 ((nn : Int) + ((pairsAt l i (k - (i + 1)) : Nat) : Int)) ∧ Below w.heap.size w wr) (fun _ kv _ => l.length - (intOf kv).toNat)
        case atStart => exact ⟨i + 1, by omega, by omega, by simp, vint (by rw [Nat.sub_self, HL0.out]; simp), HB.out⟩
        case round =>
          obtain ⟨k, hk1, hk, rfl, rfl, hbk⟩ := hrel
          by_cases hkl : k < l.length
          · have q0 := HAt.out _ hbk i hlt
            have q1 := HAt.out _ hbk k hkl
            have e1 : i + 1 + (k - (i + 1)) = k := by omega
            have e2 : k + 1 - (i + 1) = k - (i + 1) + 1 := by omega
            have hle := HLe.out (k - (i + 1))
            have HY := HLY.out (k - (i + 1)) (by omega)
            have HN := HLN.out (k - (i + 1)) (by omega)
            rw [e1, ← e2] at HY HN
            generalize pairsAt l i (k - (i + 1)) = pa at *
            generalize hpb : pairsAt l i (k + 1 - (i + 1)) = pb at *
            have HPB := Lib.hid hpb
            have HBk := Lib.hid hbk
            by_cases hless : l.getD k 0 < l.getD i 0
            · have HV := Lib.hid (HY hless)
              have t0 : decide (l.getD k 0 < l.getD i 0) = true := decide_eq_true hless
              generalize l.getD k 0 = y at *
              generalize l.getD i 0 = z at *
              clear hbk hless HY HN e1 e2 hpb
              go_wp2_with fail
              go_quiet (fail)
              go_wp2_with fail
              go_roundw
              case rel => exact ⟨k + 1, by omega, by omega, by go_num, vint (by rw [HPB.out, HV.out]; push_cast; omega), HBk.out.trans (((Drawn.refl wr).drewN _).below _)⟩
              case measure => simp [intOf]; omega
            · have HV := Lib.hid (HN (by omega))
              have t0 : decide (l.getD k 0 < l.getD i 0) = false := decide_eq_false hless
              generalize l.getD k 0 = y at *
              generalize l.getD i 0 = z at *
              clear hbk hless HY HN e1 e2 hpb
              go_wp2_with fail
              go_quiet (fail)
              go_wp2_with fail
              go_roundw
              case rel => exact ⟨k + 1, by omega, by omega, by go_num, by rw [HPB.out, HV.out], HBk.out.trans (((Drawn.refl wr).drewN _).below _)⟩
              case measure => simp [intOf]; omega
          · obtain rfl : k = l.length := by omega
            have e := HLend.out
            have HE : Hid ((nn : Int) + ((pairsAt l i (l.length - (i + 1)) : Nat) : Int) = ((pairsTo l (i + 1) : Nat) : Int)) := Lib.hid (by rw [← e]; push_cast; rfl)
            rw [HE.out]
            clear e HLend
            go_wp2_with fail
            exact ⟨⟨i + 1, by omega, by go_num, rfl, hbk⟩, by simp [intOf]; omega⟩
      · obtain rfl : i = l.length := by omega
        rw [pairsTo_end]
        clear hr hpt hpt2
        go_wp2
        go_ret2
        exact ⟨rfl, hbel⟩
set_option maxHeartbeats 400000 in
theorem permSwaps_walk (v : Value) (w : World) (h : ∃ l, IsInts .i64 w w.heap.size v l) :
    Calls Try.prog 12 #[v] w fun e w' => e = .returned (.bool true) ∧ Below w.heap.size w w' := by
  obtain ⟨l, h⟩ := h
  obtain ⟨r, cc, hR⟩ := SwapR.ex l
  have H1 := Lib.hid (permSwaps_any v l r cc w _ (Nat.le_refl _) h hR)
  have H2 := Lib.hid fun W (hb : Below w.heap.size w W) => refPermSwaps_any v l r cc W _ hb.size (h.below hb) hR
  obtain ⟨A, c, rfl, hc, hm, hn, hr, hw⟩ := h
  clear hr hw hR
  go_enter Try.func12, Try.ntmps12
  go_wp2_with (first
    | (go_at_call 36; refine (H1.out).mono ?_; rintro e w1 ⟨rfl, hb1⟩)
    | (go_at_call 37; refine (H2.out _ hb1).mono ?_; rintro e w2 ⟨rfl, hb2⟩))
  go_ret
  exact ⟨ret_bool (by simp), hb1.trans (hb2.mono hb1.size)⟩
end Go.Proofs.Ytjnndbllaplkcaa
