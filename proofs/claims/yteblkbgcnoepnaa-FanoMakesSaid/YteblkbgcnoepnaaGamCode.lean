/-
  Contract of gam.code: the code of a number, in a row of the call's own. Conditions: a number from 1 to 2^20.
-/
import Derived.Test.YteblkbgcnoepnaaGamEncPlain
import Derived.Test.YteblkbgcnoepnaaBools
import Derived.Test.YteblkbgcnoepnaaRefPackMake
import Derived.Test.YteblkbgcnoepnaaShelf
namespace Go.Dam
open Go Go.RowKit
set_option linter.unusedVariables false
/-- A made row of false. -/
def falsesV (n : Nat) : Array Value := (List.replicate n (Value.bool false)).toArray
theorem falsesV_eq (n : Nat) : (List.replicate n (Value.bool false)).toArray = falsesV n := rfl
theorem own_falses {w : World} {E : TypeId} {n base : Nat} (hn : n ≤ 140737488351232) (hb : base ≤ w.heap.size) : (w.alloc (.cells (falsesV n) E)).ownsRow base E 1 (.slice (some ⟨w.heap.size, 0, none⟩) n n) n ((List.replicate n false).map Value.bool) :=
  ⟨by simp, .inr ⟨w.heap.size, n, _, rfl, hb, Blk.new w E (falsesV n), Nat.le_refl _, by unfold maxLen; omega, by unfold falsesV; simp, by unfold falsesV; simp⟩⟩
attribute [irreducible] falsesV
end Go.Dam
namespace Go.Proofs.Yteblkbgcnoepnaa
open Go Go.RowKit Go.Dam
set_option linter.unusedVariables false
set_option maxRecDepth 100000 in
set_option maxHeartbeats 1000000 in
theorem gamCode_any : ∀ (k : Int) (n : Nat) (w : World), I64 k → 1 ≤ n → n ≤ 1048576 → (k = 2 → ∀ (W : World) (m : Nat), 1 ≤ m → m ≤ 1048576 → Calls Try.prog 49 #[.int .i64 1, .int .i64 m] W fun e w' => ∃ u, e = .returned u ∧ w'.ownsRow W.heap.size 4 1 u (gamK 1 m).length ((gamK 1 m).map Value.bool) ∧ Below W.heap.size W w') →
    Calls Try.prog 49 #[.int .i64 k, .int .i64 n] w fun e w' => ∃ u, e = .returned u ∧ w'.ownsRow w.heap.size 4 1 u (gamK k n).length ((gamK k n).map Value.bool) ∧ Below w.heap.size w w' := by
  intro k n w hk h1 h2 hrec
  unfold I64 at hk
  have hL := fun W => Try.bits_Len (n : Int) W (by omega) (by omega)
  simp only [Int.toNat_natCast] at hL
  have hb1 := bitLen_pos h1 (by omega)
  have hb2 := bitLen_21 h2
  have HT : Hid (∃ pre q, gamK k n = pre ++ binN n q ∧ (k = 2 → pre = gamK 1 (Lib.bitLen n) ∧ q = Lib.bitLen n - 1) ∧ (k ≠ 2 → pre = List.replicate (Lib.bitLen n - 1) false ∧ Lib.bitLen n = q)) := Lib.hid (by
    by_cases h : k = 2
    · subst h; rw [gamK_2, gam1_eq]; exact ⟨_, _, rfl, fun _ => ⟨rfl, rfl⟩, fun h => absurd rfl h⟩
    · rw [gamK_1 h]; exact ⟨_, _, rfl, fun g => absurd g h, fun _ => ⟨rfl, rfl⟩⟩)
  have HLen := Lib.hid (gamK_len (k := k) h2)
  have HBit := Lib.hid fun i => bit_i64 n i (by omega)
  generalize Lib.bitLen n = L at *
  have HL := Lib.hid hL
  have HR := Lib.hid hrec
  have hmk := fun w' => run_make1 el_bool rfl ((L : Int) - 1) (L - 1) (by omega) (by omega) (by omega) w'
  simp only [falsesV_eq] at hmk
  clear hL hrec
  obtain ⟨pre, q, hT, hk2, hk1⟩ := HT.out
  generalize gamK k n = T at *
  have HTT := Lib.hid hT
  clear HT hT
  by_cases hkk : k = 2
  · subst hkk
    obtain ⟨hpre, rfl⟩ := hk2 rfl
    have HPre := Lib.hid hpre
    clear hk1 hk2 hpre hmk
    go_enter Try.func49, Try.ntmps49
    go_wp2_with (first
      | (go_at_call 72; refine (HL.out _).mono ?_; rintro e w' ⟨rfl, hww⟩; obtain rfl := hww.symm)
      | (go_at_call 49; refine (HR.out (by simp) w L hb1 (by omega)).mono ?_; rintro e w1 ⟨u, rfl, hown, hbel⟩))
    rw [← HPre.out] at hown
    have HO := Lib.hid hown
    have HB := Lib.hid hbel
    clear hown hbel
    go_loopw [6, 7] (fun ov iv wr => ∃ (o : List Bool) (t : Nat) (i : Int), t ≤ L - 1 ∧ i = (t : Int) - 1 ∧ iv = .int .i64 i ∧ T = o ++ binN n t ∧ wr.ownsRow w.heap.size 4 1 ov o.length (o.map Value.bool) ∧ Below w.heap.size w wr) (fun _ iv _ => (intOf iv + 1).toNat)
    case atStart => exact ⟨pre, L - 1, _, by omega, by omega, rfl, HTT.out, HO.out, HB.out⟩
    case round =>
      obtain ⟨o, t, i, ht, hi, rfl, hTo, hown, hbel⟩ := hrel
      obtain ⟨A2, c2, rfl⟩ := own_shape hown
      have hz := hbel.size
      rcases t with _ | s
      · have hi0 : i < 0 := by omega
        clear hi
        rw [binN_0, List.append_nil] at hTo
        have HO := Lib.hid hown
        have HB := Lib.hid hbel
        have HTo := Lib.hid hTo
        clear hown hbel hTo
        go_wp2_with fail
        go_ret
        exact ⟨_, rfl, by rw [HTo.out]; exact HO.out, HB.out⟩
      · obtain rfl : i = (s : Int) := by omega
        have hb := HBit.out s
        have hol : o.length ≤ 100 := by have := HLen.out; rw [hTo, List.length_append] at this; omega
        have HTo : Hid (T = (o ++ [n.testBit s]) ++ binN n s) := Lib.hid (by rw [hTo, binN_succ]; simp)
        have HO := Lib.hid hown
        have HB := Lib.hid hbel
        generalize hlo : o.length = lo at *
        have HLo := Lib.hid hlo
        clear hown hbel hTo hi hlo
        cases hbb : n.testBit s
        all_goals
          rw [hbb] at hb HTo
          simp only [Bool.false_eq_true, if_false, if_true] at hb
          go_wp2_with (at_builtin; refine wpList_push el_bool rfl (.tmp 26) (.tmp 32) rfl w.heap.size (.slice A2 lo c2) lo _ (HO.out.alloc _) rfl wr.heap.size 1 _ rfl (by simp; rfl) rfl (by omega) (by omega) (by simp; omega) ?_; intro v' w2 hown2 hg2)
          go_roundw
          case rel => exact ⟨_, s, _, by omega, rfl, rfl, HTo.out, by rw [List.map_append, List.length_append, HLo.out]; exact hown2, below_push (HB.out.alloc hz _) (HO.out.alloc _) (by omega) (by simp; omega) hg2⟩
          case measure => simp [intOf]
  · obtain ⟨hpre, rfl⟩ := hk1 hkk
    have HPre := Lib.hid hpre
    have hd : (k == 2) = false := by simpa using hkk
    clear hk1 hk2 hpre
    go_enter Try.func49, Try.ntmps49
    go_wp2_with (go_at_call 72; refine (HL.out _).mono ?_; rintro e w' ⟨rfl, hww⟩; obtain rfl := hww.symm)
    go_loopw [6, 7] (fun ov iv wr => ∃ (o : List Bool) (t : Nat) (i : Int), t ≤ L ∧ i = (t : Int) - 1 ∧ iv = .int .i64 i ∧ T = o ++ binN n t ∧ wr.ownsRow w.heap.size 4 1 ov o.length (o.map Value.bool) ∧ Below w.heap.size w wr) (fun _ iv _ => (intOf iv + 1).toNat)
    case atStart => exact ⟨pre, L, _, by omega, rfl, rfl, HTT.out, by rw [HPre.out, List.length_replicate]; exact own_falses (by omega) (Nat.le_refl _), (Below.refl _ _).alloc (Nat.le_refl _) _⟩
    case round =>
      obtain ⟨o, t, i, ht, hi, rfl, hTo, hown, hbel⟩ := hrel
      obtain ⟨A2, c2, rfl⟩ := own_shape hown
      have hz := hbel.size
      rcases t with _ | s
      · have hi0 : i < 0 := by omega
        clear hi
        rw [binN_0, List.append_nil] at hTo
        have HO := Lib.hid hown
        have HB := Lib.hid hbel
        have HTo := Lib.hid hTo
        clear hown hbel hTo
        go_wp2_with fail
        go_ret
        exact ⟨_, rfl, by rw [HTo.out]; exact HO.out, HB.out⟩
      · obtain rfl : i = (s : Int) := by omega
        have hb := HBit.out s
        have hol : o.length ≤ 100 := by have := HLen.out; rw [hTo, List.length_append] at this; omega
        have HTo : Hid (T = (o ++ [n.testBit s]) ++ binN n s) := Lib.hid (by rw [hTo, binN_succ]; simp)
        have HO := Lib.hid hown
        have HB := Lib.hid hbel
        generalize hlo : o.length = lo at *
        have HLo := Lib.hid hlo
        clear hown hbel hTo hi hlo
        cases hbb : n.testBit s
        all_goals
          rw [hbb] at hb HTo
          simp only [Bool.false_eq_true, if_false, if_true] at hb
          go_wp2_with (at_builtin; refine wpList_push el_bool rfl (.tmp 26) (.tmp 32) rfl w.heap.size (.slice A2 lo c2) lo _ (HO.out.alloc _) rfl wr.heap.size 1 _ rfl (by simp; rfl) rfl (by omega) (by omega) (by simp; omega) ?_; intro v' w2 hown2 hg2)
          go_roundw
          case rel => exact ⟨_, s, _, by omega, rfl, rfl, HTo.out, by rw [List.map_append, List.length_append, HLo.out]; exact hown2, below_push (HB.out.alloc hz _) (HO.out.alloc _) (by omega) (by simp; omega) hg2⟩
          case measure => simp [intOf]
theorem gamCode_all (k : Int) (n : Nat) (w : World) (hk : I64 k) (h1 : 1 ≤ n) (h2 : n ≤ 1048576) :
    Calls Try.prog 49 #[.int .i64 k, .int .i64 n] w fun e w' => ∃ u, e = .returned u ∧ w'.ownsRow w.heap.size 4 1 u (gamK k n).length ((gamK k n).map Value.bool) ∧ Below w.heap.size w w' :=
  gamCode_any k n w hk h1 h2 fun _ W m hm hm2 => gamCode_any 1 m W (by unfold I64; omega) hm hm2 fun h => absurd h (by decide)
end Go.Proofs.Yteblkbgcnoepnaa
