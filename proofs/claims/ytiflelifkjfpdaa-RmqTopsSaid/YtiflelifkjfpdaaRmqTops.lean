/-
  Contracts of rmq.Top and the reference's RmqTop, and the law's walk. Conditions: the arguments are a list of ints, a list of lists and two ints.
-/
import Derived.Test.YtiflelifkjfpdaaRefRmqMake
import Derived.Test.YtiflelifkjfpdaaEqInts
import Derived.Test.YtiflelifkjfpdaaLenPlain
import Derived.Test.YtiflelifkjfpdaaShelf
namespace Go.Dam
/-- What Top answers. -/
def RmqTopR (l : List Int) (t : List (List Int)) (a b r c : Int) : Prop :=
  (300 < l.length ∧ r = 0 ∧ c = 4) ∨ (l.length ≤ 300 ∧ eqR t (rmqRows l (p2s l.length)) = false ∧ r = 0 ∧ c = 4) ∨
  (l.length ≤ 300 ∧ eqR t (rmqRows l (p2s l.length)) = true ∧ (a < 0 ∨ b < a ∨ (l.length : Int) ≤ b) ∧ r = 0 ∧ c = 2) ∨
  (l.length ≤ 300 ∧ eqR t (rmqRows l (p2s l.length)) = true ∧ ∃ x y : Nat, a = x ∧ b = y ∧ x ≤ y ∧ y < l.length ∧ r = (topF (fun k => l.getD k 0) x (y - x) : Nat) ∧ c = 0)
theorem RmqTopR.ex (l : List Int) (t : List (List Int)) (a b : Int) : ∃ r c, RmqTopR l t a b r c := by
  by_cases h : 300 < l.length
  · exact ⟨_, _, .inl ⟨h, rfl, rfl⟩⟩
  cases h2 : eqR t (rmqRows l (p2s l.length))
  · exact ⟨_, _, .inr (.inl ⟨by omega, h2, rfl, rfl⟩)⟩
  by_cases h3 : a < 0 ∨ b < a ∨ (l.length : Int) ≤ b
  · exact ⟨_, _, .inr (.inr (.inl ⟨by omega, h2, h3, rfl, rfl⟩))⟩
  · exact ⟨_, _, .inr (.inr (.inr ⟨by omega, h2, a.toNat, b.toNat, by omega, by omega, by omega, by omega, rfl, rfl⟩))⟩
end Go.Dam
namespace Go.Proofs.Ytiflelifkjfpdaa
open Go Go.RowKit Go.Dam
set_option linter.unusedVariables false
set_option maxHeartbeats 2000000 in
theorem rmqTop_any (v u : Value) (l : List Int) (t : List (List Int)) (a b r cc : Int) (w : World) (B : Nat) (hB : B ≤ w.heap.size) (h : IsInts .i64 w B v l) (h' : IsRows w B u t) (hR : RmqTopR l t a b r cc) (ha : I64 a) (hb : I64 b) :
    Calls Try.prog 20 #[v, u, .int .i64 a, .int .i64 b] w fun e w' => e = .returned (.tuple #[.int .i64 r, .int .i64 cc]) ∧ Below w.heap.size w w' := by
  have HM := fun ls c (hR : RmqMakeR l ls c) => rmqMake_any v l ls c w B hB h hR
  have HE := Lib.hid fun vw m x W (hbe : Below w.heap.size w W) (hi : IsRows W W.heap.size vw m) (hx : eqR t m = x) => equalRows_any u vw t m x W B W.heap.size (h'.below (hbe.mono hB)) hi hx
  rcases hR with ⟨h1, rfl, rfl⟩ | ⟨h1, h2, rfl, rfl⟩ | ⟨h1, h2, h3, rfl, rfl⟩ | ⟨h1, h2, x, y, rfl, rfl, hxy, hyl, rfl, rfl⟩
  · have HM := Lib.hid (HM [] 1 (.inl ⟨h1, rfl, rfl⟩))
    clear h h'
    go_enter Try.func20, Try.ntmps20
    go_wp2_with (go_at_call 15; refine (HM.out).mono ?_; rintro e w1 ⟨vw, rfl, hi1, hb1⟩; clear hi1)
    go_ret2
    exact ⟨rfl, hb1⟩
  · have HM := Lib.hid (HM _ 0 (.inr ⟨h1, rfl, rfl⟩))
    have H2 := Lib.hid h2
    clear h h' h2
    go_enter Try.func20, Try.ntmps20
    go_wp2_with (first
      | (go_at_call 15; refine (HM.out).mono ?_; rintro e w1 ⟨vw, rfl, hi1, hb1⟩; have HI1 := Lib.hid hi1; clear hi1)
      | (go_at_call 43; refine (HE.out _ _ _ _ hb1 HI1.out H2.out).mono ?_; rintro e w2 ⟨rfl, hd2⟩))
    go_ret2
    exact ⟨rfl, hb1.trans (hd2.below _)⟩
  · have HM := Lib.hid (HM _ 0 (.inr ⟨h1, rfl, rfl⟩))
    have H2 := Lib.hid h2
    obtain ⟨A, c, rfl, _⟩ := h
    clear h' h2
    by_cases g1 : a < 0
    · have t0 : decide (a < 0) = true := by simpa using g1
      clear h3
      go_enter Try.func20, Try.ntmps20
      go_wp2_with (first
        | (go_at_call 15; refine (HM.out).mono ?_; rintro e w1 ⟨vw, rfl, hi1, hb1⟩; have HI1 := Lib.hid hi1; clear hi1)
        | (go_at_call 43; refine (HE.out _ _ _ _ hb1 HI1.out H2.out).mono ?_; rintro e w2 ⟨rfl, hd2⟩))
      go_ret2
      exact ⟨rfl, hb1.trans (hd2.below _)⟩
    have t0 : decide (a < 0) = false := by simpa using g1
    by_cases g2 : b < a
    · have t1 : decide (b < a) = true := by simpa using g2
      clear h3
      go_enter Try.func20, Try.ntmps20
      go_wp2_with (first
        | (go_at_call 15; refine (HM.out).mono ?_; rintro e w1 ⟨vw, rfl, hi1, hb1⟩; have HI1 := Lib.hid hi1; clear hi1)
        | (go_at_call 43; refine (HE.out _ _ _ _ hb1 HI1.out H2.out).mono ?_; rintro e w2 ⟨rfl, hd2⟩))
      go_ret2
      exact ⟨rfl, hb1.trans (hd2.below _)⟩
    have t1 : decide (b < a) = false := by simpa using g2
    have t2 : decide ((l.length : Int) ≤ b) = true := by simp; omega
    clear h3
    go_enter Try.func20, Try.ntmps20
    go_wp2_with (first
      | (go_at_call 15; refine (HM.out).mono ?_; rintro e w1 ⟨vw, rfl, hi1, hb1⟩; have HI1 := Lib.hid hi1; clear hi1)
      | (go_at_call 43; refine (HE.out _ _ _ _ hb1 HI1.out H2.out).mono ?_; rintro e w2 ⟨rfl, hd2⟩))
    go_ret2
    exact ⟨rfl, hb1.trans (hd2.below _)⟩
  · have HM := Lib.hid (HM _ 0 (.inr ⟨h1, rfl, rfl⟩))
    have H2 := Lib.hid h2
    have HT := Lib.hid fun a b r W (hb : Below w.heap.size w W) => rmqtop_any v l a b r W B (h.below (hb.mono hB))
    have hte := eqR_yes h2
    obtain ⟨A', c', us, rfl, hc', hm', hn', hl', hr', hi'⟩ := h'
    obtain ⟨A, c, rfl, hc, hm, hn, hr, hw⟩ := h
    obtain ⟨n, hn1⟩ : ∃ n, n = y - x + 1 := ⟨_, rfl⟩
    have hle := bitLen_iff (Lib.bitLen n - 1) n (by omega)
    have hle2 := bitLen_iff (Lib.bitLen n) n (by omega)
    have hle3 := bitLen_iff 0 n (by omega)
    have hsz := bitLen_le 9 n (by omega)
    have HL := fun W => Try.bits_Len ((y : Int) - (x : Int) + 1) W (by omega) (by omega)
    rw [show ((y : Int) - (x : Int) + 1).toNat = n from by omega] at HL
    obtain ⟨k, hk⟩ : ∃ k, Lib.bitLen n = k + 1 := ⟨Lib.bitLen n - 1, by have := hle3.2 (by omega); omega⟩
    rw [hk] at hle hle2 hsz HL
    rw [Nat.add_sub_cancel] at hle
    have hkn := hle.1 (Nat.lt_succ_self _)
    have hkn2 : ¬ 2 ^ (k + 1) ≤ n := fun h => by have := hle2.2 h; omega
    rw [p2_eq] at hkn hkn2
    rw [p2_succ] at hkn2
    have hks := (p2s_iff (n := l.length) (j := k) (by omega)).2 (by omega)
    have hs62 := p2s_62 (n := l.length) (by omega)
    have hpow := p2_int k
    have hlen : t.length = p2s l.length := by rw [hte, rmqRows_length]
    have hrow : t.getD k [] = rmqRow l k := by rw [hte, rmqRows_at hks]
    have hiK := hi' k (by omega)
    rw [hrow] at hiK
    have hRl := rmqRow_length l k
    obtain ⟨Ax, cx, hux, hcx, hmx, hrx⟩ := hiK.open_ hRl
    obtain ⟨bo, oo, rfl, hbo, hoc⟩ := IsRows.cells (c := c') hl' hr' (by omega)
    have k0 := hoc k (by omega)
    rw [hux] at k0
    have hQp := p2_pos k
    have hAt := fun i (hi : i < l.length + 1 - p2 k) => rmqRow_at (l := l) (j := k) hi
    obtain ⟨bx, ox, rfl, hbx, hcells⟩ := ints_cells hrx (by omega)
    have k1 := hcells x (by omega)
    have k2 := hcells (y + 1 - p2 k) (by omega)
    rw [hAt _ (by omega)] at k1 k2
    have d1 := topF_is (fun k => l.getD k 0) x (p2 k - 1)
    have d2 := topF_is (fun k => l.getD k 0) (y + 1 - p2 k) (p2 k - 1)
    have e1 := d1.hi
    have e2 := d2.hi
    obtain ⟨r, hr1, hr2⟩ : ∃ r : Nat, (l.getD (topF (fun k => l.getD k 0) x (p2 k - 1)) 0 < l.getD (topF (fun k => l.getD k 0) (y + 1 - p2 k) (p2 k - 1)) 0 ∧ r = topF (fun k => l.getD k 0) (y + 1 - p2 k) (p2 k - 1) ∨ l.getD (topF (fun k => l.getD k 0) (y + 1 - p2 k) (p2 k - 1)) 0 ≤ l.getD (topF (fun k => l.getD k 0) x (p2 k - 1)) 0 ∧ r = topF (fun k => l.getD k 0) x (p2 k - 1)) ∧ topF (fun k => l.getD k 0) x (y - x) = r := by
      by_cases hh : l.getD (topF (fun k => l.getD k 0) x (p2 k - 1)) 0 < l.getD (topF (fun k => l.getD k 0) (y + 1 - p2 k) (p2 k - 1)) 0
      · exact ⟨_, .inl ⟨hh, rfl⟩, topF_eq (d1.joinYes d2 (by omega) (by omega) (by omega) hh) (by omega)⟩
      · exact ⟨_, .inr ⟨by omega, rfl⟩, topF_eq (d1.joinNo d2 (by omega) (by omega) (by omega) (by show l.getD _ 0 ≤ l.getD _ 0; omega)) (by omega)⟩
    rw [hr2]
    have HC := Lib.hid fun W (hb : Below w.heap.size w W) => HT.out _ _ r W hb (by omega) (by omega) hr1
    have b1 : p2 k ≤ y + 1 := by omega
    have b2 : x < l.length + 1 - p2 k := by omega
    have b3 : y + 1 - p2 k < l.length + 1 - p2 k := by omega
    have b4 : k ≤ 62 := by omega
    have b5 : k < t.length := by omega
    have b6 : (y : Int) + 1 - (p2 k : Nat) = ((y + 1 - p2 k : Nat) : Int) := by omega
    generalize topF (fun k => l.getD k 0) x (p2 k - 1) = ta at *
    generalize topF (fun k => l.getD k 0) (y + 1 - p2 k) (p2 k - 1) = tb at *
    generalize hQ : p2 k = Q at *
    have HK0 := Lib.hid k0
    have HK1 := Lib.hid k1
    have HK2 := Lib.hid k2
    have HL := Lib.hid HL
    have t0 : decide ((x : Int) < 0) = false := by simp
    have t1 : decide (y < x) = false := by simp; omega
    have t1' : decide ((y : Int) < (x : Int)) = false := by simp; omega
    have t2 : decide (l.length ≤ y) = false := by simp; omega
    have t2' : decide ((l.length : Int) ≤ (y : Int)) = false := by simp; omega
    clear h2 hte hr' hi' hl' hr hw hle hle2 hle3 hsz hrow hiK hRl hux hoc hAt hcells k0 k1 k2 d1 d2 hr1 hr2 hks hlen hQ HT hrx hk
    go_enter Try.func20, Try.ntmps20
    go_wp2_with (first
      | (go_at_call 15; refine (HM.out).mono ?_; rintro e w1 ⟨vw, rfl, hi1, hb1⟩; have HI1 := Lib.hid hi1; clear hi1)
      | (go_at_call 43; refine (HE.out _ _ _ _ hb1 HI1.out H2.out).mono ?_; rintro e w2 ⟨rfl, hd2⟩; have hb2 := hb1.trans (hd2.below _))
      | (go_at_call 46; refine (HL.out _).mono ?_; rintro e w3 ⟨rfl, rfl⟩))
    have q0 := (hb2.cell (p := ⟨bo, oo + k, none⟩) (by simp; omega)).trans HK0.out
    have q1 := (hb2.cell (p := ⟨bx, ox + x, none⟩) (by simp; omega)).trans HK1.out
    have q2 := (hb2.cell (p := ⟨bx, ox + (y + 1 - Q), none⟩) (by simp; omega)).trans HK2.out
    have HC3 := Lib.hid fun n => HC.out (w3.drewN n) (below_drewN hb2 n)
    go_quiet ((go_at_call 40; exact quiet_of_drawn (HC3.out _)))
    go_wp2
    go_ret2
    exact ⟨rfl, below_drewN hb2 _⟩
set_option maxHeartbeats 2000000 in
theorem refRmqTop_any (v u : Value) (l : List Int) (t : List (List Int)) (a b r cc : Int) (w : World) (B : Nat) (hB : B ≤ w.heap.size) (h : IsInts .i64 w B v l) (h' : IsRows w B u t) (hR : RmqTopR l t a b r cc) (ha : I64 a) (hb : I64 b) :
    Calls Try.prog 21 #[v, u, .int .i64 a, .int .i64 b] w fun e w' => e = .returned (.tuple #[.int .i64 r, .int .i64 cc]) ∧ Below w.heap.size w w' := by
  have HM := fun ls c (hR : RmqMakeR l ls c) => refRmqMake_any v l ls c w B hB h hR
  by_cases h1 : 300 < l.length
  · obtain ⟨rfl, rfl⟩ : r = 0 ∧ cc = 4 := by rcases hR with ⟨_, a, b⟩ | ⟨a, _⟩ | ⟨a, _⟩ | ⟨a, _⟩ <;> first | exact ⟨a, b⟩ | omega
    have HM := Lib.hid (HM [] 1 (.inl ⟨h1, rfl, rfl⟩))
    clear h h' hR
    go_enter Try.func21, Try.ntmps21
    go_wp2_with (go_at_call 16; refine (HM.out).mono ?_; rintro e w1 ⟨vw, rfl, hi1, hb1⟩; clear hi1)
    go_ret2
    exact ⟨rfl, hb1⟩
  have h1 : l.length ≤ 300 := by omega
  have HR : Hid ((eqR t (rmqRows l (p2s l.length)) = false ∧ r = 0 ∧ cc = 4) ∨ (eqR t (rmqRows l (p2s l.length)) = true ∧ (((a < 0 ∨ b < a ∨ (l.length : Int) ≤ b) ∧ r = 0 ∧ cc = 2) ∨ (∃ x y : Nat, a = x ∧ b = y ∧ x ≤ y ∧ y < l.length ∧ r = (topF (fun k => l.getD k 0) x (y - x) : Nat) ∧ cc = 0)))) := Lib.hid (by
    rcases hR with ⟨a, _⟩ | ⟨_, a, b⟩ | ⟨_, a, b⟩ | ⟨_, a, b⟩
    · omega
    · exact .inl ⟨a, b⟩
    · exact .inr ⟨a, .inl b⟩
    · exact .inr ⟨a, .inr b⟩)
  have HM := Lib.hid (HM _ 0 (.inr ⟨h1, rfl, rfl⟩))
  have HT := Lib.hid fun a b W (hb : Below w.heap.size w W) => topOf_any v l a b W B (h.below (hb.mono hB))
  have hs62 := p2s_62 (n := l.length) (by omega)
  obtain ⟨want, hwant⟩ : ∃ want, want = rmqRows l (p2s l.length) := ⟨_, rfl⟩
  have hwl : want.length ≤ 62 := by rw [hwant, rmqRows_length]; exact hs62
  rw [← hwant] at HR HM
  obtain ⟨A', c', us, rfl, hc', hm', hn', hl', hr', hi'⟩ := h'
  obtain ⟨A, c, rfl, hc, hm, hn, hr, hw⟩ := h
  have HI := Lib.hid hi'
  have HL := Lib.hid hl'
  clear hR hr hw hi' hl' hwant
  go_enter Try.func21, Try.ntmps21
  by_cases hlen : t.length = want.length
  · have HLen := Lib.hid hlen
    have t0 : ((t.length : Int) != (want.length : Int)) = false := by rw [hlen]; simp
    have hl1 : want.length ≤ t.length := by omega
    have hl2 : t.length ≤ want.length := by omega
    clear hlen
    go_wp2_with (go_at_call 16; refine (HM.out).mono ?_; rintro e w1 ⟨vw, rfl, hi1, hb1⟩; obtain ⟨A2, c2, vs, rfl, hc2, hm2, hn2, hl2', hr2, hi2⟩ := hi1; have HI2 := Lib.hid hi2; have HL2 := Lib.hid hl2'; clear hi2 hl2')
    go_loopw [30] (fun iv wr => ∃ i : Nat, i ≤ t.length ∧ iv = .int .i64 i ∧ (∀ j, j < i → eqL (t.getD j []) (want.getD j []) = true) ∧ Drawn w1 wr) (fun iv _ => t.length - (intOf iv).toNat)
    case atStart => exact ⟨0, by omega, rfl, fun j hj => absurd hj (by omega), Drawn.refl _⟩
    case round =>
      obtain ⟨wo, rfl⟩ : ∃ wo : World, wo = wr := ⟨_, rfl⟩
      obtain ⟨i, hi, rfl, heq, hd⟩ := hrel
      have HEq := Lib.hid heq
      have HD := Lib.hid hd
      clear heq
      by_cases hlt : i < t.length
      · have hlt2 : i < want.length := by omega
        obtain ⟨bk, off, rfl, hbk, hcells⟩ := IsRows.cells (c := c') HL.out hr' (by omega)
        obtain ⟨bk', off', rfl, hbk', hcells'⟩ := IsRows.cells (c := c2) HL2.out hr2 (by omega)
        have k0 := (hd.cell ⟨bk, off + i, none⟩).trans ((hb1.cell (p := ⟨bk, off + i, none⟩) (by simp; omega)).trans (hcells i hlt))
        have k1 := (hd.cell ⟨bk', off' + i, none⟩).trans (hcells' i hlt2)
        have hx := (HI.out i hlt).below ((hb1.trans (hd.below _)).mono hB)
        have hy := (HI2.out i hlt2).below (hd.below _)
        generalize us.getD i undef = x at *
        generalize vs.getD i undef = y at *
        generalize hlx : t.getD i [] = lx at *
        generalize hly : want.getD i [] = ly at *
        obtain ⟨Ax, cx, rfl, hcx, hmx, hnx, hrx, _⟩ := hx
        obtain ⟨Ay, cy, rfl, hcy, hmy, hny, hry, _⟩ := hy
        have HX := Lib.hid hlx
        have HY := Lib.hid hly
        clear hcells hcells' hd hlx hly
        by_cases hll : lx.length = ly.length
        · have HLL := Lib.hid hll
          have t1 : ((lx.length : Int) != (ly.length : Int)) = false := by rw [hll]; simp
          have hl3 : ly.length ≤ lx.length := by omega
          have hl4 : lx.length ≤ ly.length := by omega
          clear hll
          go_wp2_with fail
          go_quiet (fail)
          go_wp2
          go_loopw [49] (fun iv wr => ∃ k : Nat, k ≤ lx.length ∧ iv = .int .i64 k ∧ (∀ j, j < k → lx.getD j 0 = ly.getD j 0) ∧ Drawn wo wr) (fun iv _ => lx.length - (intOf iv).toNat)
          case atStart => exact ⟨0, by omega, rfl, fun j hj => absurd hj (by omega), (Drawn.refl _).drewN _⟩
          case round =>
            obtain ⟨k, hk, rfl, heq, hd⟩ := hrel
            by_cases hlt3 : k < lx.length
            · obtain ⟨bx, ox, rfl, hbx, hcells⟩ := ints_cells hrx (by omega)
              obtain ⟨by_, oy, rfl, hby, hcells'⟩ := ints_cells hry (by omega)
              have q0 := (hd.cell ⟨bk, off + i, none⟩).trans k0
              have q1 := (hd.cell ⟨bk', off' + i, none⟩).trans k1
              have q2 := (hd.cell ⟨bx, ox + k, none⟩).trans (hcells k hlt3)
              have q3 := (hd.cell ⟨by_, oy + k, none⟩).trans (hcells' k (by omega))
              have hky : (k : Int) < (ly.length : Int) := by omega
              by_cases he : lx.getD k 0 = ly.getD k 0
              · have HN : Hid (∀ j, j < k + 1 → lx.getD j 0 = ly.getD j 0) := Lib.hid fun j hj => by
                  rcases Nat.lt_or_ge j k with g | g
                  · exact heq j g
                  · rw [show j = k from by omega]; exact he
                rw [← he] at q3
                have HD2 := Lib.hid hd
                generalize lx.getD k 0 = x at *
                clear hcells hcells' heq he hd
                go_wp2_with fail
                go_quiet (fail)
                go_wp2
                go_roundw
                case rel => exact ⟨k + 1, by omega, by go_num, HN.out, HD2.out.drewN _⟩
                case measure => simp [intOf]; omega
              · have hE : eqR t want = false := eqR_at (by rw [HX.out, HY.out]; exact eqL_at he)
                obtain ⟨rfl, rfl⟩ : r = 0 ∧ cc = 4 := by
                  rcases HR.out with ⟨_, h⟩ | ⟨h, _⟩
                  · exact h
                  · rw [hE] at h; cases h
                have t2 : (lx.getD k 0 != ly.getD k 0) = true := by simpa using he
                have HD2 := Lib.hid hd
                generalize lx.getD k 0 = x at *
                generalize ly.getD k 0 = y at *
                clear hcells hcells' heq hd he hE HR
                go_wp2_with fail
                go_quiet (fail)
                go_wp2
                go_ret2
                exact ⟨rfl, hb1.trans (((HD.out.trans HD2.out).drewN _).below _)⟩
            · obtain rfl : k = lx.length := by omega
              have HN : Hid (∀ j, j < i + 1 → eqL (t.getD j []) (want.getD j []) = true) := Lib.hid fun j hj => by
                rcases Nat.lt_or_ge j i with g | g
                · exact HEq.out j g
                · rw [show j = i from by omega, HX.out, HY.out]; exact eqL_all HLL.out heq
              clear heq
              go_wp2_with fail
              refine ⟨⟨i + 1, by omega, by go_num, HN.out, HD.out.trans hd⟩, by simp [intOf]; omega⟩
        · have hE : eqR t want = false := eqR_at (by rw [HX.out, HY.out]; exact eqL_len hll)
          obtain ⟨rfl, rfl⟩ : r = 0 ∧ cc = 4 := by
            rcases HR.out with ⟨_, h⟩ | ⟨h, _⟩
            · exact h
            · rw [hE] at h; cases h
          have t1 : ((lx.length : Int) != (ly.length : Int)) = true := by simp; omega
          clear hrx hry hE HR
          go_wp2_with fail
          go_quiet (fail)
          go_wp2
          go_ret2
          exact ⟨rfl, hb1.trans ((HD.out.drewN _).below _)⟩
      · obtain rfl : i = t.length := by omega
        have hE : eqR t want = true := eqR_all HLen.out HEq.out
        have hb2 := hb1.trans (hd.below _)
        rcases HR.out with ⟨h, _⟩ | ⟨_, ⟨h3, rfl, rfl⟩ | ⟨x, y, rfl, rfl, hxy, hyl, rfl, rfl⟩⟩
        · rw [hE] at h; cases h
        · clear HR HEq hE
          by_cases g1 : a < 0
          · have t3 : decide (a < 0) = true := by simpa using g1
            clear h3
            go_wp2_with fail
            go_ret2
            exact ⟨rfl, hb2⟩
          have t3 : decide (a < 0) = false := by simpa using g1
          by_cases g2 : b < a
          · have t4 : decide (b < a) = true := by simpa using g2
            clear h3
            go_wp2_with fail
            go_ret2
            exact ⟨rfl, hb2⟩
          have t4 : decide (b < a) = false := by simpa using g2
          have t5 : decide ((l.length : Int) ≤ b) = true := by simp; omega
          clear h3
          go_wp2_with fail
          go_ret2
          exact ⟨rfl, hb2⟩
        · have HC := Lib.hid (HT.out x y wo hb2 hxy hyl)
          obtain ⟨z, hz⟩ : ∃ z, topF (fun k => l.getD k 0) x (y - x) = z := ⟨_, rfl⟩
          rw [hz] at HC
          have HZ := Lib.hid hz
          clear hz
          have t3 : decide ((x : Int) < 0) = false := by simp
          have t4 : decide (y < x) = false := by simp; omega
          have t4' : decide ((y : Int) < (x : Int)) = false := by simp; omega
          have t5 : decide (l.length ≤ y) = false := by simp; omega
          have t5' : decide ((l.length : Int) ≤ (y : Int)) = false := by simp; omega
          clear HR HEq hE
          go_wp2_with (go_at_call 41; refine (HC.out).mono ?_; rintro e w2 ⟨rfl, hd2⟩)
          go_ret2
          exact ⟨ret2 (vnat HZ.out.symm) rfl, hb2.trans (hd2.below _)⟩
  · have hE : eqR t want = false := eqR_len hlen
    obtain ⟨rfl, rfl⟩ : r = 0 ∧ cc = 4 := by
      rcases HR.out with ⟨_, h⟩ | ⟨h, _⟩
      · exact h
      · rw [hE] at h; cases h
    have t0 : ((t.length : Int) != (want.length : Int)) = true := by simp; omega
    clear hE HR
    go_wp2_with (go_at_call 16; refine (HM.out).mono ?_; rintro e w1 ⟨vw, rfl, hi1, hb1⟩; obtain ⟨A2, c2, vs, rfl, hc2, hm2, hn2, hl2', hr2, hi2⟩ := hi1; clear hi2 hl2' hr2)
    go_ret2
    exact ⟨rfl, hb1⟩
set_option maxHeartbeats 400000 in
theorem rmqTops_walk (v u x1 x2 : Value) (w : World) (h : ∃ l, IsInts .i64 w w.heap.size v l) (h' : ∃ ls, IsRows w w.heap.size u ls) (h1 : ∃ x : Int, x1 = .int .i64 x ∧ I64 x) (h2 : ∃ x : Int, x2 = .int .i64 x ∧ I64 x) :
    Calls Try.prog 5 #[v, u, x1, x2] w fun e w' => e = .returned (.bool true) ∧ Below w.heap.size w w' := by
  obtain ⟨l, h⟩ := h
  obtain ⟨t, h'⟩ := h'
  obtain ⟨a, rfl, ha⟩ := h1
  obtain ⟨b, rfl, hb⟩ := h2
  obtain ⟨r, cc, hR⟩ := RmqTopR.ex l t a b
  have H1 := Lib.hid (rmqTop_any v u l t a b r cc w _ (Nat.le_refl _) h h' hR ha hb)
  have H2 := Lib.hid fun W (hbe : Below w.heap.size w W) => refRmqTop_any v u l t a b r cc W _ hbe.size (h.below hbe) (h'.below hbe) hR ha hb
  clear h h' hR
  go_enter Try.func5, Try.ntmps5
  go_wp2_with (first
    | (go_at_call 20; refine (H1.out).mono ?_; rintro e w1 ⟨rfl, hb1⟩)
    | (go_at_call 21; refine (H2.out _ hb1).mono ?_; rintro e w2 ⟨rfl, hb2⟩))
  all_goals (go_ret; exact ⟨ret_bool (by simp), hb1.trans (hb2.mono hb1.size)⟩)
end Go.Proofs.Ytiflelifkjfpdaa
