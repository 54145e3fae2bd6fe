/-
  Contracts of rmq.Top and the reference's RmqTop, and the law's walk. Conditions: the arguments are a list of ints, a list of lists and two ints.
-/
import Derived.Test.YtdmfhpigchbcbaaMTopMax14
import Derived.Test.YtdmfhpigchbcbaaMTopMax15
import Derived.Test.YtdmfhpigchbcbaaMTopMax00
import Derived.Test.YtdmfhpigchbcbaaShelf
namespace Go.Dam
/-- What Top answers. -/
def RmqTopR (l : List Int) (t : List (List Int)) (a b r c : Int) : Prop :=
  (300 < l.length ∧ r = 0 ∧ c = 4) ∨ (l.length ≤ 300 ∧ eqR t (rmqRows l (p2s l.length)) = false ∧ r = 0 ∧ c = 4) ∨
  (l.length ≤ 300 ∧ eqR t (rmqRows l (p2s l.length)) = true ∧ (a < 0 ∨ b < a ∨ (l.length : Int) ≤ b) ∧ r = 0 ∧ c = 2) ∨
  (l.length ≤ 300 ∧ eqR t (rmqRows l (p2s l.length)) = true ∧ ∃ x y : Nat, a = x ∧ b = y ∧ x ≤ y ∧ y < l.length ∧ r = (topF (fun k => l.getD k 0) x (y - x) : Nat) ∧ c = 0)
theorem RmqTopR.ex (l : List Int) (t : List (List Int)) (a b : Int) : ∃ r c, RmqTopR l t a b r c := by
  by_cases h : 300 < l.length
  · exact ⟨_, _, .inl ⟨h, rfl, rfl⟩⟩
  cases h2 : eqR t (rmqRows l (p2s l.length))
  · exact ⟨_, _, .inr (.inl ⟨by omega, h2, rfl, rfl⟩)⟩
  by_cases h3 : a < 0 ∨ b < a ∨ (l.length : Int) ≤ b
  · exact ⟨_, _, .inr (.inr (.inl ⟨by omega, h2, h3, rfl, rfl⟩))⟩
  · exact ⟨_, _, .inr (.inr (.inr ⟨by omega, h2, a.toNat, b.toNat, by omega, by omega, by omega, by omega, rfl, rfl⟩))⟩
end Go.Dam
namespace Go.Proofs.Ytdmfhpigchbcbaa
open Go Go.RowKit Go.Dam
set_option linter.unusedVariables false
set_option maxHeartbeats 2000000 in
theorem rmqTop_any (v u : Value) (l : List Int) (t : List (List Int)) (a b r cc : Int) (w : World) (B : Nat) (hB : B ≤ w.heap.size) (h : IsInts .i64 w B v l) (h' : IsRows w B u t) (hR : RmqTopR l t a b r cc) (ha : I64 a) (hb : I64 b) :
    Calls Try.prog 9 #[v, u, .int .i64 a, .int .i64 b] w fun e w' => e = .returned (.tuple #[.int .i64 r, .int .i64 cc]) ∧ Below w.heap.size w w' := by
  have HM := fun ls c (hR : RmqMakeR l ls c) => rmqMake_any v l ls c w B hB h hR
  have HE := Lib.hid fun vw m x W (hbe : Below w.heap.size w W) (hi : IsRows W W.heap.size vw m) (hx : eqR t m = x) => equalRows_any u vw t m x W B W.heap.size (h'.below (hbe.mono hB)) hi hx
  rcases hR with ⟨h1, rfl, rfl⟩ | ⟨h1, h2, rfl, rfl⟩ | ⟨h1, h2, h3, rfl, rfl⟩ | ⟨h1, h2, x, y, rfl, rfl, hxy, hyl, rfl, rfl⟩
  · have HM := Lib.hid (HM [] 1 (.inl ⟨h1, rfl, rfl⟩))
    clear h h'
    go_enter Try.func9, Try.ntmps9
    go_wp2_with (go_at_call 7; refine (HM.out).mono ?_; rintro e w1 ⟨vw, rfl, hi1, hb1⟩; clear hi1)
    go_ret2
    exact ⟨rfl, hb1⟩
  · have HM := Lib.hid (HM _ 0 (.inr ⟨h1, rfl, rfl⟩))
    have H2 := Lib.hid h2
    clear h h' h2
    go_enter Try.func9, Try.ntmps9
    go_wp2_with (first
      | (go_at_call 7; refine (HM.out).mono ?_; rintro e w1 ⟨vw, rfl, hi1, hb1⟩; have HI1 := Lib.hid hi1; clear hi1)
      | (go_at_call 20; refine (HE.out _ _ _ _ hb1 HI1.out H2.out).mono ?_; rintro e w2 ⟨rfl, hd2⟩))
    go_ret2
    exact ⟨rfl, hb1.trans (hd2.below _)⟩
  · have HM := Lib.hid (HM _ 0 (.inr ⟨h1, rfl, rfl⟩))
    have H2 := Lib.hid h2
    obtain ⟨A, c, rfl, _⟩ := h
    clear h' h2
    by_cases g1 : a < 0
    · have t0 : decide (a < 0) = true := by simpa using g1
      clear h3
      go_enter Try.func9, Try.ntmps9
      go_wp2_with (first
        | (go_at_call 7; refine (HM.out).mono ?_; rintro e w1 ⟨vw, rfl, hi1, hb1⟩; have HI1 := Lib.hid hi1; clear hi1)
        | (go_at_call 20; refine (HE.out _ _ _ _ hb1 HI1.out H2.out).mono ?_; rintro e w2 ⟨rfl, hd2⟩))
      go_ret2
      exact ⟨rfl, hb1.trans (hd2.below _)⟩
    have t0 : decide (a < 0) = false := by simpa using g1
    by_cases g2 : b < a
    · have t1 : decide (b < a) = true := by simpa using g2
      clear h3
      go_enter Try.func9, Try.ntmps9
      go_wp2_with (first
        | (go_at_call 7; refine (HM.out).mono ?_; rintro e w1 ⟨vw, rfl, hi1, hb1⟩; have HI1 := Lib.hid hi1; clear hi1)
        | (go_at_call 20; refine (HE.out _ _ _ _ hb1 HI1.out H2.out).mono ?_; rintro e w2 ⟨rfl, hd2⟩))
      go_ret2
      exact ⟨rfl, hb1.trans (hd2.below _)⟩
    have t1 : decide (b < a) = false := by simpa using g2
    have t2 : decide ((l.length : Int) ≤ b) = true := by simp; omega
    clear h3
    go_enter Try.func9, Try.ntmps9
    go_wp2_with (first
      | (go_at_call 7; refine (HM.out).mono ?_; rintro e w1 ⟨vw, rfl, hi1, hb1⟩; have HI1 := Lib.hid hi1; clear hi1)
      | (go_at_call 20; refine (HE.out _ _ _ _ hb1 HI1.out H2.out).mono ?_; rintro e w2 ⟨rfl, hd2⟩))
    go_ret2
    exact ⟨rfl, hb1.trans (hd2.below _)⟩
  · have HM := Lib.hid (HM _ 0 (.inr ⟨h1, rfl, rfl⟩))
    have H2 := Lib.hid h2
    have HT := Lib.hid fun a b r W (hb : Below w.heap.size w W) => rmqtop_any v l a b r W B (h.below (hb.mono hB))
    have hte := eqR_yes h2
    obtain ⟨A', c', us, rfl, hc', hm', hn', hl', hr', hi'⟩ := h'
    obtain ⟨A, c, rfl, hc, hm, hn, hr, hw⟩ := h
    obtain ⟨n, hn1⟩ : ∃ n, n = y - x + 1 := ⟨_, rfl⟩
    have hle := bitLen_iff (Lib.bitLen n - 1) n (by omega)
    have hle2 := bitLen_iff (Lib.bitLen n) n (by omega)
    have hle3 := bitLen_iff 0 n (by omega)
    have hsz := bitLen_le 9 n (by omega)
    have HL := fun W => Try.bits_Len ((y : Int) - (x : Int) + 1) W (by omega) (by omega)
    rw [show ((y : Int) - (x : Int) + 1).toNat = n from by omega] at HL
    obtain ⟨k, hk⟩ : ∃ k, Lib.bitLen n = k + 1 := ⟨Lib.bitLen n - 1, by have := hle3.2 (by omega); omega⟩
    rw [hk] at hle hle2 hsz HL
    rw [Nat.add_sub_cancel] at hle
    have hkn := hle.1 (Nat.lt_succ_self _)
    have hkn2 : ¬ 2 ^ (k + 1) ≤ n := fun h => by have := hle2.2 h; omega
    rw [p2_eq] at hkn hkn2
    rw [p2_succ] at hkn2
    have hks := (p2s_iff (n := l.length) (j := k) (by omega)).2 (by omega)
    have hs62 := p2s_62 (n := l.length) (by omega)
    have hpow := p2_int k
    have hlen : t.length = p2s l.length := by rw [hte, rmqRows_length]
    have hrow : t.getD k [] = rmqRow l k := by rw [hte, rmqRows_at hks]
    have hiK := hi' k (by omega)
    rw [hrow] at hiK
    have hRl := rmqRow_length l k
    obtain ⟨Ax, cx, hux, hcx, hmx, hrx⟩ := hiK.open_ hRl
    obtain ⟨bo, oo, rfl, hbo, hoc⟩ := IsRows.cells (c := c') hl' hr' (by omega)
    have k0 := hoc k (by omega)
    rw [hux] at k0
    have hQp := p2_pos k
    have hAt := fun i (hi : i < l.length + 1 - p2 k) => rmqRow_at (l := l) (j := k) hi
    obtain ⟨bx, ox, rfl, hbx, hcells⟩ := ints_cells hrx (by omega)
    have k1 := hcells x (by omega)
    have k2 := hcells (y + 1 - p2 k) (by omega)
    rw [hAt _ (by omega)] at k1 k2
    have d1 := topF_is (fun k => l.getD k 0) x (p2 k - 1)
    have d2 := topF_is (fun k => l.getD k 0) (y + 1 - p2 k) (p2 k - 1)
    have e1 := d1.hi
    have e2 := d2.hi
    obtain ⟨r, hr1, hr2⟩ : ∃ r : Nat, (l.getD (topF (fun k => l.getD k 0) x (p2 k - 1)) 0 < l.getD (topF (fun k => l.getD k 0) (y + 1 - p2 k) (p2 k - 1)) 0 ∧ r = topF (fun k => l.getD k 0) (y + 1 - p2 k) (p2 k - 1) ∨ l.getD (topF (fun k => l.getD k 0) (y + 1 - p2 k) (p2 k - 1)) 0 ≤ l.getD (topF (fun k => l.getD k 0) x (p2 k - 1)) 0 ∧ r = topF (fun k => l.getD k 0) x (p2 k - 1)) ∧ topF (fun k => l.getD k 0) x (y - x) = r := by
      by_cases hh : l.getD (topF (fun k => l.getD k 0) x (p2 k - 1)) 0 < l.getD (topF (fun k => l.getD k 0) (y + 1 - p2 k) (p2 k - 1)) 0
      · exact ⟨_, .inl ⟨hh, rfl⟩, topF_eq (d1.joinYes d2 (by omega) (by omega) (by omega) hh) (by omega)⟩
      · exact ⟨_, .inr ⟨by omega, rfl⟩, topF_eq (d1.joinNo d2 (by omega) (by omega) (by omega) (by show l.getD _ 0 ≤ l.getD _ 0; omega)) (by omega)⟩
    rw [hr2]
    have HC := Lib.hid fun W (hb : Below w.heap.size w W) => HT.out _ _ r W hb (by omega) (by omega) hr1
    have b1 : p2 k ≤ y + 1 := by omega
    have b2 : x < l.length + 1 - p2 k := by omega
    have b3 : y + 1 - p2 k < l.length + 1 - p2 k := by omega
    have b4 : k ≤ 62 := by omega
    have b5 : k < t.length := by omega
    have b6 : (y : Int) + 1 - (p2 k : Nat) = ((y + 1 - p2 k : Nat) : Int) := by omega
    generalize topF (fun k => l.getD k 0) x (p2 k - 1) = ta at *
    generalize topF (fun k => l.getD k 0) (y + 1 - p2 k) (p2 k - 1) = tb at *
    generalize hQ : p2 k = Q at *
    have HK0 := Lib.hid k0
    have HK1 := Lib.hid k1
    have HK2 := Lib.hid k2
    have HL := Lib.hid HL
    have t0 : decide ((x : Int) < 0) = false := by simp
    have t1 : decide (y < x) = false := by simp; omega
    have t1' : decide ((y : Int) < (x : Int)) = false := by simp; omega
    have t2 : decide (l.length ≤ y) = false := by simp; omega
    have t2' : decide ((l.length : Int) ≤ (y : Int)) = false := by simp; omega
    clear h2 hte hr' hi' hl' hr hw hle hle2 hle3 hsz hrow hiK hRl hux hoc hAt hcells k0 k1 k2 d1 d2 hr1 hr2 hks hlen hQ HT hrx hk
    go_enter Try.func9, Try.ntmps9
    go_wp2_with (first
      | (go_at_call 7; refine (HM.out).mono ?_; rintro e w1 ⟨vw, rfl, hi1, hb1⟩; have HI1 := Lib.hid hi1; clear hi1)
      | (go_at_call 20; refine (HE.out _ _ _ _ hb1 HI1.out H2.out).mono ?_; rintro e w2 ⟨rfl, hd2⟩; have hb2 := hb1.trans (hd2.below _))
      | (go_at_call 23; refine (HL.out _).mono ?_; rintro e w3 ⟨rfl, rfl⟩))
    have q0 := (hb2.cell (p := ⟨bo, oo + k, none⟩) (by simp; omega)).trans HK0.out
    have q1 := (hb2.cell (p := ⟨bx, ox + x, none⟩) (by simp; omega)).trans HK1.out
    have q2 := (hb2.cell (p := ⟨bx, ox + (y + 1 - Q), none⟩) (by simp; omega)).trans HK2.out
    have HC3 := Lib.hid fun n => HC.out (w3.drewN n) (below_drewN hb2 n)
    go_quiet ((go_at_call 19; exact quiet_of_drawn (HC3.out _)))
    go_wp2
    go_ret2
    exact ⟨rfl, below_drewN hb2 _⟩
end Go.Proofs.Ytdmfhpigchbcbaa
