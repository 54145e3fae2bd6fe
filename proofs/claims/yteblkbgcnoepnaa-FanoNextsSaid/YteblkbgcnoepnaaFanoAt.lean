/-
  Contracts of fano.May, of fano.At and of the reference's FanoAt, over what reading gives. Conditions: the struct can be read as data.
-/
import Derived.Test.YteblkbgcnoepnaaFanoRead
import Derived.Test.YteblkbgcnoepnaaRefFanoRead
namespace Go.Proofs.Yteblkbgcnoepnaa
open Go Go.RowKit Go.Dam
set_option linter.unusedVariables false
/-- The struct lies in memory; l is the list that its parts hold, ok says whether they are good. -/
def FanoIs (w : World) (B : Nat) (v : Value) (l : List Int) (ok : Bool) : Prop :=
  ∃ bd n1 m1 ws1 n2 ws2 gbd gn1 gm gws1 gn2 gws2 gc, IsFano w B v bd n1 m1 ws1 n2 ws2 ∧ l = listF m1 ws1 n2 ws2 ∧
    FanoR bd (listF m1 ws1 n2 ws2) gbd gn1 gm gws1 gn2 gws2 gc (fun W l n m ws => ∃ c, PackR W l n m ws c) ∧ (ok = true ↔ GoodF n1 m1 ws1 n2 ws2 gm gws1 gn2 gws2 gc)
theorem FanoIs.below {w w' : World} {B : Nat} {v : Value} {l : List Int} {ok : Bool} (h : FanoIs w B v l ok) (hb : Below B w w') : FanoIs w' B v l ok := by
  obtain ⟨bd, n1, m1, ws1, n2, ws2, gbd, gn1, gm, gws1, gn2, gws2, gc, h1, h2, h3, h4⟩ := h
  exact ⟨bd, n1, m1, ws1, n2, ws2, gbd, gn1, gm, gws1, gn2, gws2, gc, h1.below hb, h2, h3, h4⟩
theorem FanoIs.ex {w : World} {B : Nat} {v : Value} (h : ∃ bd n1 m1 ws1 n2 ws2, IsFano w B v bd n1 m1 ws1 n2 ws2) : ∃ l ok, FanoIs w B v l ok := by
  obtain ⟨bd, n1, m1, ws1, n2, ws2, h⟩ := h
  obtain ⟨gbd, gn1, gm, gws1, gn2, gws2, gc, hR⟩ := FanoR.ex bd (listF m1 ws1 n2 ws2)
  classical
  exact ⟨_, decide (GoodF n1 m1 ws1 n2 ws2 gm gws1 gn2 gws2 gc), bd, n1, m1, ws1, n2, ws2, gbd, gn1, gm, gws1, gn2, gws2, gc, h, rfl, hR, by simp⟩
theorem FanoIs.shape {w : World} {B : Nat} {v : Value} {l : List Int} {ok : Bool} (h : FanoIs w B v l ok) : ∃ a b c A1 k1 c1 d A2 k2 c2, v = .agg #[.int .i64 a, .int .i64 b, .int .i64 c, .slice A1 k1 c1, .int .i64 d, .slice A2 k2 c2] := by
  obtain ⟨bd, n1, m1, ws1, n2, ws2, gbd, gn1, gm, gws1, gn2, gws2, gc, h1, h2, h3, h4⟩ := h
  obtain ⟨s1, s2, rfl, hbd, i1, i2, i3, h1, h2⟩ := id h1
  obtain ⟨A1, c1, rfl, _⟩ := id h1
  obtain ⟨A2, c2, rfl, _⟩ := id h2
  exact ⟨_, _, _, _, _, _, _, _, _, _, rfl⟩
/-- A good one's list has at most 300 numbers, and they do not fall. -/
theorem FanoIs.good {w : World} {B : Nat} {v : Value} {l : List Int} (h : FanoIs w B v l true) : l.length ≤ 300 ∧ ∃ b, OkF b l := by
  obtain ⟨bd, n1, m1, ws1, n2, ws2, gbd, gn1, gm, gws1, gn2, gws2, gc, h1, rfl, h3, h4⟩ := h
  have g := (goodF_iff.1 (h4.1 rfl)).2.2.2.1
  unfold FanoR at h3
  rcases h3 with h3 | h3
  · exact absurd g h3.1
  · exact ⟨h3.2.1, bd, h3.2.2.1⟩
/-- What At answers. -/
def AtFR (l : List Int) (ok : Bool) (i r c : Int) : Prop :=
  (ok = false ∧ r = 0 ∧ c = 4) ∨ (ok = true ∧ (i < 0 ∨ (l.length : Int) ≤ i) ∧ r = 0 ∧ c = 2) ∨ (ok = true ∧ ∃ k : Nat, i = k ∧ k < l.length ∧ r = l.getD k 0 ∧ c = 0)
theorem AtFR.ex (l : List Int) (ok : Bool) (i : Int) : ∃ r c, AtFR l ok i r c := by
  cases ok with
  | false => exact ⟨_, _, .inl ⟨rfl, rfl, rfl⟩⟩
  | true =>
    by_cases h : i < 0 ∨ (l.length : Int) ≤ i
    · exact ⟨_, _, .inr (.inl ⟨rfl, h, rfl, rfl⟩)⟩
    · obtain ⟨k, rfl⟩ := Int.eq_ofNat_of_zero_le (show 0 ≤ i by omega)
      exact ⟨_, _, .inr (.inr ⟨rfl, k, rfl, by omega, rfl, rfl⟩)⟩
theorem readF_any {w : World} {B : Nat} {v : Value} {l : List Int} {ok : Bool} (h : FanoIs w B v l ok) (hB : B ≤ w.heap.size) : Calls Try.prog 63 #[v] w (GivesRead l ok w) := by
  obtain ⟨bd, n1, m1, ws1, n2, ws2, gbd, gn1, gm, gws1, gn2, gws2, gc, h1, rfl, h3, h4⟩ := h
  exact fanoRead_any v bd n1 m1 ws1 n2 ws2 ok gbd gn1 gm gws1 gn2 gws2 gc w B hB h1 h3 h4
theorem refReadF_any {w : World} {B : Nat} {v : Value} {l : List Int} {ok : Bool} (h : FanoIs w B v l ok) (hB : B ≤ w.heap.size) : Calls Try.prog 30 #[v] w (GivesRead l ok w) := by
  obtain ⟨bd, n1, m1, ws1, n2, ws2, gbd, gn1, gm, gws1, gn2, gws2, gc, h1, rfl, h3, h4⟩ := h
  exact refFanoRead_any v bd n1 m1 ws1 n2 ws2 ok gbd gn1 gm gws1 gn2 gws2 gc w B hB h1 h3 h4
set_option maxHeartbeats 400000 in
theorem fanoMay_any (v : Value) (l : List Int) (ok : Bool) (w : World) (B : Nat) (hB : B ≤ w.heap.size) (h : FanoIs w B v l ok) :
    Calls Try.prog 31 #[v] w fun e w' => e = .returned (.bool ok) ∧ Below w.heap.size w w' := by
  have HRd := Lib.hid fun W (hW : Below w.heap.size w W) => readF_any (h.below (hW.mono hB)) (Nat.le_trans hB hW.size)
  obtain ⟨a, b, c, A1, k1, c1, d, A2, k2, c2, rfl⟩ := h.shape
  have HA := Lib.hid ((Below.refl w.heap.size w).alloc (Nat.le_refl _) (.cells #[.int .i64 a, .int .i64 b, .int .i64 c, .slice A1 k1 c1, .int .i64 d, .slice A2 k2 c2] 45))
  clear h
  go_enter Try.func31, Try.ntmps31
  go_wp2_with (go_at_call 63; refine (HRd.out _ HA.out).mono ?_; rintro e w1 ⟨A3, c3, l3, rfl, h3, h33, hb1⟩)
  go_ret
  exact ⟨rfl, below_box hb1⟩
set_option maxHeartbeats 400000 in
theorem fanoAt_any (v : Value) (l : List Int) (ok : Bool) (i r cc : Int) (w : World) (B : Nat) (hB : B ≤ w.heap.size) (h : FanoIs w B v l ok) (hi64 : I64 i) (hR : AtFR l ok i r cc) :
    Calls Try.prog 32 #[v, .int .i64 i] w fun e w' => e = .returned (.tuple #[.int .i64 r, .int .i64 cc]) ∧ Below w.heap.size w w' := by
  have HRd := Lib.hid fun W (hW : Below w.heap.size w W) => readF_any (h.below (hW.mono hB)) (Nat.le_trans hB hW.size)
  obtain ⟨a, b, c, A1, k1, c1, d, A2, k2, c2, rfl⟩ := h.shape
  have HA := Lib.hid ((Below.refl w.heap.size w).alloc (Nat.le_refl _) (.cells #[.int .i64 a, .int .i64 b, .int .i64 c, .slice A1 k1 c1, .int .i64 d, .slice A2 k2 c2] 45))
  unfold I64 at hi64
  rcases hR with ⟨rfl, rfl, rfl⟩ | ⟨rfl, hi, rfl, rfl⟩ | ⟨rfl, k, rfl, hk, rfl, rfl⟩
  · clear h
    go_enter Try.func32, Try.ntmps32
    go_wp2_with (go_at_call 63; refine (HRd.out _ HA.out).mono ?_; rintro e w1 ⟨A3, c3, l3, rfl, h3, h33, hb1⟩)
    go_ret2
    exact ⟨rfl, below_box hb1⟩
  · have hl := h.good.1
    clear h
    rcases hi with hi | hi
    · go_enter Try.func32, Try.ntmps32
      go_wp2_with (go_at_call 63; refine (HRd.out _ HA.out).mono ?_; rintro e w1 ⟨A3, c3, l3, rfl, h3, h33, hb1⟩; obtain rfl := h33 rfl)
      go_ret2
      exact ⟨rfl, below_box hb1⟩
    · have hi0 : ¬ i < 0 := by omega
      go_enter Try.func32, Try.ntmps32
      go_wp2_with (go_at_call 63; refine (HRd.out _ HA.out).mono ?_; rintro e w1 ⟨A3, c3, l3, rfl, h3, h33, hb1⟩; obtain rfl := h33 rfl)
      go_ret2
      exact ⟨rfl, below_box hb1⟩
  · have hl := h.good.1
    clear h
    have hi0 : ¬ (k : Int) < 0 := by omega
    go_enter Try.func32, Try.ntmps32
    go_wp2_with (go_at_call 63; refine (HRd.out _ HA.out).mono ?_; rintro e w1 ⟨A3, c3, l3, rfl, h3, h33, hb1⟩; obtain rfl := h33 rfl; obtain ⟨_, _, hv, _, _, _, hr, hw⟩ := h3; cases hv; obtain ⟨bk, off, rfl, hbk, hcells⟩ := ints_cells hr (by omega); have kc := hcells k hk; clear hcells hr hw)
    go_ret2
    exact ⟨ret2 (vint (by simp [List.getD_eq_getElem?_getD, List.getElem?_eq_getElem hk])) rfl, below_box hb1⟩
set_option maxHeartbeats 400000 in
theorem refFanoAt_any (v : Value) (l : List Int) (ok : Bool) (i r cc : Int) (w : World) (B : Nat) (hB : B ≤ w.heap.size) (h : FanoIs w B v l ok) (hi64 : I64 i) (hR : AtFR l ok i r cc) :
    Calls Try.prog 33 #[v, .int .i64 i] w fun e w' => e = .returned (.tuple #[.int .i64 r, .int .i64 cc]) ∧ Below w.heap.size w w' := by
  have HRd := Lib.hid fun W (hW : Below w.heap.size w W) => refReadF_any (h.below (hW.mono hB)) (Nat.le_trans hB hW.size)
  obtain ⟨a, b, c, A1, k1, c1, d, A2, k2, c2, rfl⟩ := h.shape
  have HA := Lib.hid ((Below.refl w.heap.size w).alloc (Nat.le_refl _) (.cells #[.int .i64 a, .int .i64 b, .int .i64 c, .slice A1 k1 c1, .int .i64 d, .slice A2 k2 c2] 45))
  unfold I64 at hi64
  rcases hR with ⟨rfl, rfl, rfl⟩ | ⟨rfl, hi, rfl, rfl⟩ | ⟨rfl, k, rfl, hk, rfl, rfl⟩
  · clear h
    go_enter Try.func33, Try.ntmps33
    go_wp2_with (go_at_call 30; refine (HRd.out _ HA.out).mono ?_; rintro e w1 ⟨A3, c3, l3, rfl, h3, h33, hb1⟩)
    go_ret2
    exact ⟨rfl, below_box hb1⟩
  · have hl := h.good.1
    clear h
    rcases hi with hi | hi
    · go_enter Try.func33, Try.ntmps33
      go_wp2_with (go_at_call 30; refine (HRd.out _ HA.out).mono ?_; rintro e w1 ⟨A3, c3, l3, rfl, h3, h33, hb1⟩; obtain rfl := h33 rfl)
      go_ret2
      exact ⟨rfl, below_box hb1⟩
    · have hi0 : ¬ i < 0 := by omega
      go_enter Try.func33, Try.ntmps33
      go_wp2_with (go_at_call 30; refine (HRd.out _ HA.out).mono ?_; rintro e w1 ⟨A3, c3, l3, rfl, h3, h33, hb1⟩; obtain rfl := h33 rfl)
      go_ret2
      exact ⟨rfl, below_box hb1⟩
  · have hl := h.good.1
    clear h
    have hi0 : ¬ (k : Int) < 0 := by omega
    go_enter Try.func33, Try.ntmps33
    go_wp2_with (go_at_call 30; refine (HRd.out _ HA.out).mono ?_; rintro e w1 ⟨A3, c3, l3, rfl, h3, h33, hb1⟩; obtain rfl := h33 rfl; obtain ⟨_, _, hv, _, _, _, hr, hw⟩ := h3; cases hv; obtain ⟨bk, off, rfl, hbk, hcells⟩ := ints_cells hr (by omega); have kc := hcells k hk; clear hcells hr hw)
    go_ret2
    exact ⟨ret2 (vint (by simp [List.getD_eq_getElem?_getD, List.getElem?_eq_getElem hk])) rfl, below_box hb1⟩
end Go.Proofs.Yteblkbgcnoepnaa
