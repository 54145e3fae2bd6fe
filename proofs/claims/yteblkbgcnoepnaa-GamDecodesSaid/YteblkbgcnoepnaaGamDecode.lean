/-
  Contract of gam.Decode: the numbers of a row of bits, or why there are none. Conditions: the row can be read as data.
-/
import Derived.Test.YteblkbgcnoepnaaGamNext
import Derived.Test.YteblkbgcnoepnaaSameInts
import Derived.Test.YteblkbgcnoepnaaOwnBlk
namespace Go.Dam
open Go Go.RowKit
set_option linter.unusedVariables false
/-- Where the reader in block g stands. -/
def atOf (w : World) (g : Nat) : Nat := match w.cell? ⟨g, 2, none⟩ with
  | some v => (intOf v).toNat
  | none => 0
theorem atOf_of {T : TypeId} {w : World} {g n i : Nat} {ws : List Nat} {e : Int} (h : RdAt T w g n ws i e) : atOf w g = i := by
  obtain ⟨sv, hB, _⟩ := h
  unfold atOf
  rw [show w.cell? ⟨g, 2, none⟩ = some (.int .i64 i) from hB.cell 2]
  simp [intOf]
attribute [irreducible] atOf
/-- What decoding answers. -/
def DecR (k : Int) (n : Int) (ws : List Nat) (L : List Bool) (r : List Int) (cc : Int) : Prop :=
  (¬ kinded k ∧ r = [] ∧ cc = 3) ∨ (kinded k ∧ mayBits n ws = false ∧ r = [] ∧ cc = 4) ∨ (kinded k ∧ mayBits n ws = true ∧ DecG k L [] r cc)
theorem DecR.ex (k n : Int) (ws : List Nat) (L : List Bool) : ∃ r cc, DecR k n ws L r cc := by
  by_cases hk : kinded k
  · cases hm : mayBits n ws with
    | false => exact ⟨_, _, .inr (.inl ⟨hk, hm, rfl, rfl⟩)⟩
    | true =>
      obtain ⟨r, cc, h⟩ := DecG.ex k L.length L [] (Nat.le_refl _)
      exact ⟨r, cc, .inr (.inr ⟨hk, hm, h⟩)⟩
  · exact ⟨_, _, .inl ⟨hk, rfl, rfl⟩⟩
theorem DecG.open_ {k : Int} {l : List Bool} {out r : List Int} {cc : Int} (h : DecG k l out r cc) (hl : l ≠ []) : (∃ x rest, NextR k l x rest cc ∧ cc ≠ 0 ∧ r = []) ∨ ∃ x rest, NextR k l x rest 0 ∧ DecG k rest (out ++ [(x : Int)]) r cc := by
  cases h with
  | done _ h => exact absurd rfl hl
  | long _ h => exact absurd rfl hl
  | bad _ _ x rest e h1 h2 h3 => exact .inl ⟨x, rest, h2, h3, rfl⟩
  | step _ _ x rest r cc h1 h2 h3 => exact .inr ⟨x, rest, h2, h3⟩
theorem DecG.end_ {k : Int} {l : List Bool} {out r : List Int} {cc : Int} (h : DecG k l out r cc) (hl : l = []) : (out.length ≤ 300 ∧ r = out ∧ cc = 0) ∨ (300 < out.length ∧ r = [] ∧ cc = 1) := by
  subst hl
  cases h with
  | done _ h => exact .inl ⟨h, rfl, rfl⟩
  | long _ h => exact .inr ⟨h, rfl, rfl⟩
  | bad _ _ x rest e h1 h2 h3 => exact absurd rfl h1
  | step _ _ x rest r cc h1 h2 h3 => exact absurd rfl h1
theorem DecG.rest_ok {k : Int} {l : List Bool} {out r : List Int} {cc : Int} (h : DecG k l out r cc) : (∀ z ∈ out, (Lit.int .i64 z).wf = true) → ∀ z ∈ r, (Lit.int .i64 z).wf = true := by
  induction h with
  | done out h => exact fun h => h
  | long out h => intro _ z hz; cases hz
  | bad l out x rest e h1 h2 h3 => intro _ z hz; cases hz
  | step l out x rest r cc h1 h2 h3 ih =>
    intro ho
    have hx := (h2.fact.1 rfl).2.1
    refine ih fun z hz => ?_
    rcases List.mem_append.1 hz with h | h
    · exact ho z h
    · simp at h; subst h; simp [Lit.wf, IntKind.min, IntKind.max, IntKind.signed, IntKind.bits]; omega
end Go.Dam
namespace Go.Proofs.Yteblkbgcnoepnaa
open Go Go.RowKit Go.Dam
set_option linter.unusedVariables false
theorem rdAt_drewN {w : World} {g n i : Nat} {ws : List Nat} {e : Int} (h : RdAt 75 w g n ws i e) (m : Nat) : RdAt 75 (w.drewN m) g n ws i e := by
  obtain ⟨sv, hB, hW⟩ := h
  exact ⟨sv, hB.drewN m, hW.below (below_drewN (Below.refl _ _) m)⟩
set_option maxRecDepth 100000 in
set_option maxHeartbeats 400000 in
theorem gamDecode_kind (k : Int) (v : Value) (n : Int) (ws : List Nat) (w : World) (B : Nat) (hk : I64 k) (h : IsBits w B v n ws) (hn : ¬ kinded k) :
    Calls Try.prog 24 #[.int .i64 k, v] w (GivesInts [] 3 w) := by
  have HK := Lib.hid fun W => kinded_no k W hn hk
  obtain ⟨s, rfl, _, _⟩ := h
  clear hn
  unfold I64 at hk
  go_enter Try.func24, Try.ntmps24
  go_wp2_with (go_at_call 48; refine (HK.out _).mono ?_; rintro e w' ⟨rfl, rfl⟩)
  go_ret2
  exact ⟨_, rfl, isInts_nil _ _ _, (Below.refl _ _).alloc (Nat.le_refl _) _⟩
set_option maxRecDepth 100000 in
set_option maxHeartbeats 400000 in
theorem gamDecode_form (k : Int) (v : Value) (n : Int) (ws : List Nat) (w : World) (B : Nat) (hB : B ≤ w.heap.size) (h : IsBits w B v n ws) (hn : kinded k) (hm : mayBits n ws = false) :
    Calls Try.prog 24 #[.int .i64 k, v] w (GivesInts [] 4 w) := by
  have HK := Lib.hid fun W => kinded_yes k W hn
  have hA : IsBits w B v n ws := h
  obtain ⟨s, rfl, _, _⟩ := h
  have HA := Lib.hid (may_any (.agg #[.int .i64 n, s]) n ws (w.alloc (.cells #[.int .i64 n, s] 24)) B (box_le hB) (hA.below ((Below.refl _ _).alloc hB _)))
  rw [hm] at HA
  clear hn hA hm
  go_enter Try.func24, Try.ntmps24
  go_wp2_with (first
    | (go_at_call 48; refine (HK.out _).mono ?_; rintro e w' ⟨rfl, rfl⟩)
    | (go_at_call 42; refine (HA.out).mono ?_; rintro e w1 ⟨rfl, hb⟩))
  go_ret2
  exact ⟨_, rfl, isInts_nil _ _ _, below_box hb⟩
set_option maxRecDepth 100000 in
set_option maxHeartbeats 2000000 in
theorem gamDecode_some (k : Int) (v : Value) (n : Nat) (ws : List Nat) (r : List Int) (cc : Int) (w : World) (B : Nat) (hB : B ≤ w.heap.size) (h : IsBits w B v n ws) (hn : kinded k) (hm : mayBits n ws = true) (hR : DecG k (rowBits ws n) [] r cc) :
    Calls Try.prog 24 #[.int .i64 k, v] w (GivesInts r cc w) := by
  have HK := Lib.hid fun W => kinded_yes k W hn
  have hA : IsBits w B v n ws := h
  obtain ⟨s, rfl, _, hWs⟩ := h
  have HA := Lib.hid (may_any (.agg #[.int .i64 n, s]) n ws (w.alloc (.cells #[.int .i64 n, s] 24)) B (box_le hB) (hA.below ((Below.refl _ _).alloc hB _)))
  rw [hm] at HA
  have HN := Lib.hid hn
  have HM := Lib.hid hm
  have HWs := Lib.hid hWs
  have HR := Lib.hid hR
  have HL : Hid (∀ i, ((rowBits ws n).drop i).length = n - i) := Lib.hid fun i => by rw [List.length_drop, rowBits_length]
  have hnl := (may_facts hm).2.1
  clear hn hA hm hWs hR
  go_enter Try.func24, Try.ntmps24
  go_wp2_with (first
    | (go_at_call 48; refine (HK.out _).mono ?_; rintro e w' ⟨rfl, rfl⟩)
    | (go_at_call 42; refine (HA.out).mono ?_; rintro e w1 ⟨rfl, hb⟩; obtain ⟨k0, k1⟩ := box2 hb; have hz1 := size_box hb; have HB1 := Lib.hid hb; clear hb))
  clear HK HA
  go_loopw [7, 8] (fun ov nv wr => ∃ (i : Nat) (o : List Int), i ≤ n ∧ o.length ≤ i ∧ RdAt 75 wr w1.heap.size n ws i 0 ∧ Blk wr w.heap.size 24 #[.int .i64 n, s] ∧ wr.ownsRow (w1.heap.size + 1) 3 1 ov o.length (o.map (Value.int .i64)) ∧ (∀ z ∈ o, (Lit.int .i64 z).wf = true) ∧ DecG k ((rowBits ws n).drop i) o r cc ∧ Below w.heap.size w wr) (fun _ _ wr => n - atOf wr w1.heap.size)
  case atStart => exact ⟨0, [], by omega, by simp, ⟨s, Blk.new_at _ _ _ _ rfl, (HWs.out.below (((below_box HB1.out).mono hB).trans ((Below.refl _ _).alloc (by omega) _))).more (by omega)⟩, ((Blk.new w _ _).below HB1.out (by simp)).alloc _, World.ownsRow_nil _ _ _ _, (fun z hz => by cases hz), by rw [List.drop_zero]; exact HR.out, (below_box HB1.out).alloc (by omega) _⟩
  case round =>
    obtain ⟨i, o, hi, ho, hrd, hbox, hown, hwf, hdec, hbel⟩ := hrel
    have hat := atOf_of hrd
    have HRd := Lib.hid hrd
    have HBx := Lib.hid hbox
    have HBe := Lib.hid hbel
    have HDe := Lib.hid hdec
    obtain ⟨A2, c2, rfl⟩ := own_shape hown
    have HO := Lib.hid hown
    have HWf := Lib.hid hwf
    obtain ⟨sv, hB, _⟩ := hrd
    have q2 : wr.cell? ⟨w1.heap.size, 2, none⟩ = some (.int .i64 i) := hB.cell 2
    have q0 : wr.cell? ⟨w.heap.size, 0, none⟩ = some (.int .i64 n) := hbox.cell 0
    have hzr := hB.lt
    clear hB hbox hbel hdec hown hwf
    by_cases hlt : i < n
    · rcases HDe.out.open_ (by intro e; have := HL.out i; rw [e] at this; simp at this; omega) with ⟨x, rest, hnx, hc0, rfl⟩ | ⟨x, rest, hnx, hd2⟩
      · have HNx := Lib.hid fun W hr => gamNext_any k W w1.heap.size n ws i x rest cc HN.out hr HM.out hi hnx
        have hcc : (cc != 0) = true := by simpa using hc0
        clear hnx hc0 HDe HR
        go_wp2_with fail
        go_quiet (fail)
        go_wp2_with (go_at_call 54; refine (HNx.out _ (rdAt_drewN HRd.out _)).mono ?_; rintro u w2 ⟨v, i2, rfl, hv, hr2, hg2, _⟩; have HR2 := Lib.hid hr2; obtain ⟨sv2, hB2, _⟩ := hr2; have q3 : w2.cell? ⟨w1.heap.size, 3, none⟩ = some (.int .i64 cc) := hB2.cell 3)
        go_quiet (fail)
        go_wp2_with fail
        go_ret2
        exact ⟨_, rfl, isInts_nil _ _ _, below_drewN ((below_drewN HBe.out _).trans ((grown_low hg2 (by simp; omega)).mono (by omega))) _⟩
      · have HNx := Lib.hid fun W hr => gamNext_any k W w1.heap.size n ws i x rest 0 HN.out hr HM.out hi hnx
        obtain ⟨hx1, hx2, t, ht1, ht2, hrt⟩ := hnx.fact.1 rfl
        have HStep : Hid (∀ i2, i2 ≤ n → rest = (rowBits ws n).drop i2 → i + 1 ≤ i2) := Lib.hid fun i2 h2 h3 => by
          have e1 := HL.out i2
          have e2 := HL.out i
          rw [← h3, hrt, List.length_drop, e2] at e1
          rw [e2] at ht2
          omega
        have HD2 := Lib.hid hd2
        generalize hol : o.length = ol at *
        have HOL := Lib.hid hol
        clear hnx hd2 HDe HR hrt ht1 ht2 hol
        go_wp2_with fail
        go_quiet (fail)
        go_wp2_with (first
          | (go_at_call 54; refine (HNx.out _ (rdAt_drewN HRd.out _)).mono ?_; rintro u w2 ⟨v, i2, rfl, hv, hr2, hg2, hvx⟩; obtain ⟨rfl, hi2, hrr⟩ := hvx (by simp); have HRR := Lib.hid hrr; clear hrr; have HR2 := Lib.hid hr2; obtain ⟨sv2, hB2, hW2⟩ := hr2; have q3 : w2.cell? ⟨w1.heap.size, 3, none⟩ = some (.int .i64 0) := hB2.cell 3; have hz2 : wr.heap.size ≤ w2.heap.size := hg2.size; have HO2 := Lib.hid (World.ownsRow.kept (w := wr.drewN nq) HO.out hg2 (.inr (own_ne HO.out (by omega)))))
          | (at_builtin; refine wpList_push el_int rfl (.tmp 39) (.tmp 41) rfl (w1.heap.size + 1) (.slice A2 ol c2) ol _ (HO2.out.alloc _) rfl w2.heap.size 1 _ rfl (new_cell (by simp)) rfl (by omega) (by omega) (by simp; omega) ?_; intro v' w3 hown3 hg3))
        have hg3' : (Below w1.heap.size w2 w3) := (Below.refl _ _ |>.alloc (by omega) _).trans (below_push (Below.refl _ _) (HO2.out.alloc _) (by omega) (by simp; omega) hg3)
        have hrd3 : RdAt 75 w3 w1.heap.size n ws i2 0 := by
          refine ⟨sv2, (hB2.alloc _).grown hg3 (Ne.symm (own_ne HO2.out (by omega))), hW2.below hg3'⟩
        have hi3 := HStep.out i2 hi2 HRR.out
        refine ⟨⟨i2, o ++ [(v : Int)], hi2, by have := HOL.out; simp; omega, hrd3, (((HBx.out.drewN nq).grown hg2 (by simp; omega)).alloc _).grown hg3 (Ne.symm (own_ne HO2.out (by omega))), by rw [List.length_append, HOL.out, List.map_append]; exact hown3, ?_, by rw [← HRR.out]; exact HD2.out, (((below_drewN HBe.out nq).trans ((grown_low hg2 (by simp; omega)).mono (by omega))).trans (hg3'.mono (by omega)))⟩, ?_⟩
        · intro z hz
          rcases List.mem_append.1 hz with h | h
          · exact HWf.out z h
          · simp at h; subst h; simp [Lit.wf, IntKind.min, IntKind.max, IntKind.signed, IntKind.bits]; omega
        · rw [atOf_of hrd3, hat]; omega
    · obtain rfl : i = n := by omega
      have hnil : (rowBits ws i).drop i = [] := List.eq_nil_of_length_eq_zero (by rw [HL.out]; omega)
      rcases HDe.out.end_ hnil with ⟨h3, rfl, rfl⟩ | ⟨h3, rfl, rfl⟩
      · have h3' : ¬ 300 < r.length := by omega
        have HI := Lib.hid (own_ints HO.out (by omega) HWf.out)
        clear HDe HR hnil
        go_wp2_with fail
        go_quiet (fail)
        go_wp2_with fail
        go_ret2
        exact ⟨_, rfl, (HI.out.below (below_drewN (Below.refl _ _) _)).more (by simp), below_drewN HBe.out _⟩
      · clear HDe HR hnil
        go_wp2_with fail
        go_quiet (fail)
        go_wp2_with fail
        go_ret2
        exact ⟨_, rfl, isInts_nil _ _ _, below_drewN HBe.out _⟩
theorem gamDecode_any (k : Int) (v : Value) (n : Int) (ws : List Nat) (r : List Int) (cc : Int) (w : World) (B : Nat) (hB : B ≤ w.heap.size) (hk : I64 k) (h : IsBits w B v n ws) (hR : DecR k n ws (rowBits ws n.toNat) r cc) :
    Calls Try.prog 24 #[.int .i64 k, v] w (GivesInts r cc w) := by
  rcases hR with ⟨hn, rfl, rfl⟩ | ⟨hn, hm, rfl, rfl⟩ | ⟨hn, hm, hR⟩
  · exact gamDecode_kind k v n ws w B hk h hn
  · exact gamDecode_form k v n ws w B hB h hn hm
  · obtain ⟨N, rfl⟩ := Int.eq_ofNat_of_zero_le (may_facts hm).1
    exact gamDecode_some k v N ws r cc w B hB h hn hm hR
end Go.Proofs.Yteblkbgcnoepnaa
