/-
  Contract of the reference's row of a hull: from the first whole X of a row that is in the hull to the last one. Conditions: the corners lie in memory, no edge refuses the row.
-/
import Derived.Test.YthiccmncdmohbaaMHullInsides41
import Derived.Test.YthiccmncdmohbaaMHullInsides00
set_option linter.unusedVariables false
set_option linter.unusedSimpArgs false
namespace Go.Dam.Hull
open Go.Dam.Pick
theorem floor_lt {a b t r : Int} (hb : 0 < b) (ht : a.tdiv b = t) (hr : a.tmod b = r) (h : r < 0) : a / b = t - 1 := by
  have e := Int.tmod_add_mul_tdiv a b
  have h2 := (tmod_facts (by omega) hr).2
  rw [ht, hr] at e
  have : a = (r + b) + b * (t - 1) := by rw [Int.mul_sub]; omega
  rw [this, Int.add_mul_ediv_left _ _ (by omega), Int.ediv_eq_zero_of_lt (by omega) (by omega)]; omega
theorem floor_ge {a b t r : Int} (hb : 0 < b) (ht : a.tdiv b = t) (hr : a.tmod b = r) (h : ¬ r < 0) : a / b = t := by
  have e := Int.tmod_add_mul_tdiv a b
  have h2 := (tmod_facts (by omega) hr).2
  rw [ht, hr] at e
  have : a = r + b * t := by omega
  rw [this, Int.add_mul_ediv_left _ _ (by omega), Int.ediv_eq_zero_of_lt (by omega) (by omega)]; omega
theorem floor_bd {a b : Int} (hb : 0 < b) (h : -9007199254740992 ≤ a ∧ a ≤ 9007199254740992) : -9007199254740992 ≤ a / b ∧ a / b ≤ 9007199254740992 := by
  constructor
  · rw [Int.le_ediv_iff_mul_le hb]
    have := Int.mul_le_mul_of_nonneg_left (show (1 : Int) ≤ b by omega) (show (0 : Int) ≤ 9007199254740992 by omega)
    omega
  · refine Int.ediv_le_of_le_mul hb ?_
    have := Int.mul_le_mul_of_nonneg_left (show (1 : Int) ≤ b by omega) (show (0 : Int) ≤ 9007199254740992 by omega)
    omega
theorem tdiv_bd {a b t r : Int} (hb : 0 < b) (ht : a.tdiv b = t) (hr : a.tmod b = r) (h : -9007199254740992 ≤ a ∧ a ≤ 9007199254740992) : -9007199254740993 ≤ t ∧ t ≤ 9007199254740993 := by
  have h1 := floor_bd hb h
  by_cases c : r < 0
  · have := floor_lt hb ht hr c; omega
  · have := floor_ge hb ht hr c; omega
theorem vi {k : IntKind} {a b : Int} (h : a = b) : Value.int k a = Value.int k b := by rw [h]
end Go.Dam.Hull
namespace Go.Proofs.Ythiccmncdmohbaa
open Go Go.RowKit Go.Dam Go.Dam.Hull Go.Dam.Pick
set_option linter.unusedVariables false
set_option maxHeartbeats 1000000 in
theorem refFloor_any (a b : Int) (w : World) (hb : 0 < b) (ha : -9007199254740992 ≤ a ∧ a ≤ 9007199254740992) (hb2 : b ≤ 9007199254740992) :
    Calls Try.prog 57 #[.int .i64 a, .int .i64 b] w fun e w' => e = .returned (.int .i64 (a / b)) ∧ ∃ q, w' = w.drewN q := by
  obtain ⟨t, ht⟩ : ∃ t, a.tdiv b = t := ⟨_, rfl⟩
  obtain ⟨r, hr⟩ : ∃ r, a.tmod b = r := ⟨_, rfl⟩
  have HT := Lib.hid (tdiv_bd hb ht hr ha)
  have HLt := Lib.hid (floor_lt hb ht hr)
  have HGe := Lib.hid (floor_ge hb ht hr)
  have hrb := (tmod_facts (by omega) hr).2
  have tb := HT.out
  have w1 : IntKind.i64.wrap t = t := by rw [IntKind.wrap_i64]; omega
  have w2 : IntKind.i64.wrap r = r := by rw [IntKind.wrap_i64]; omega
  have w3 : IntKind.i64.wrap (t - 1) = t - 1 := by rw [IntKind.wrap_i64]; omega
  have z1 : b ≠ 0 := by omega
  by_cases h0 : r < 0
  · have t1 : decide (r < 0) = true := decide_eq_true h0
    go_enter Try.func57, Try.ntmps57
    go_wp2_with fail
    go_ret
    exact ⟨ret_int (HLt.out h0).symm, 0, rfl⟩
  · have t1 : decide (r < 0) = false := decide_eq_false h0
    go_enter Try.func57, Try.ntmps57
    go_wp2_with fail
    go_ret
    exact ⟨ret_int (HGe.out h0).symm, 0, rfl⟩
set_option maxRecDepth 100000 in
set_option maxHeartbeats 8000000 in
theorem refRow_any (n c bk off : Nat) (l : List Int) (H : List Nat) (co gH : Nat) (y : Int) (w : World) (hn : n ≤ 1000) (hm : 0 < H.length) (hm2 : H.length ≤ 1000) (hH : ∀ u, u < H.length → H.getD u 0 < n)
    (hco : ∀ i, i < n → okC (l.getD (i * 3) 0) ∧ okC (l.getD (i * 3 + 1) 0)) (hbk : bk < w.heap.size) (hgH : gH < w.heap.size) (hy : okC y)
    (hcs : ∀ q, q < n * 3 → w.cell? ⟨bk, off + q, none⟩ = some (.int .i64 (l.getD q 0))) (hhs : ∀ u, u < H.length → w.cell? ⟨gH, u, none⟩ = some (.int .i64 ((H.getD u 0 : Nat) : Int)))
    (hnb : ∀ j, ¬ bad (vX (ptF l) H) (vY (ptF l) H) y j) :
    Calls Try.prog 31 #[.slice (some ⟨bk, off, none⟩) n c, .slice (some ⟨gH, 0, none⟩) H.length co, .int .i64 y] w fun e w' => e = .returned (.tuple #[.int .i64 (loF (vX (ptF l) H) (vY (ptF l) H) y H.length), .int .i64 (hiF (vX (ptF l) H) (vY (ptF l) H) y H.length), .bool (decide (loF (vX (ptF l) H) (vY (ptF l) H) y H.length ≤ hiF (vX (ptF l) H) (vY (ptF l) H) y H.length))]) ∧ Below w.heap.size w w' := by
  have HCs := Lib.hid hcs
  have HHs := Lib.hid hhs
  have HCo := Lib.hid hco
  have HH := Lib.hid hH
  have HNb := Lib.hid hnb
  have HFl := Lib.hid refFloor_any
  have HI0 : Hid (hiF (vX (ptF l) H) (vY (ptF l) H) y 0 = 4000000) := Lib.hid (by with_unfolding_all rfl)
  have HL0 : Hid (loF (vX (ptF l) H) (vY (ptF l) H) y 0 = -4000000) := Lib.hid (by with_unfolding_all rfl)
  clear hcs hhs hco hH hnb
  unfold okC at hy
  go_enter Try.func31, Try.ntmps31
  go_wp2_with fail
  go_loopw [9, 10, 12, 13, 14, 15, 16, 17, 18, 21] (fun lv hv _ _ _ _ _ _ _ iv wr => ∃ (j : Nat) (lo hi : Int), j ≤ H.length ∧ iv = .int .i64 j ∧ lv = .int .i64 lo ∧ hv = .int .i64 hi ∧ Hid (lo = loF (vX (ptF l) H) (vY (ptF l) H) y j) ∧ Hid (hi = hiF (vX (ptF l) H) (vY (ptF l) H) y j) ∧ (-9007199254740992 ≤ lo ∧ lo ≤ 9007199254740992) ∧ Hid (Below w.heap.size w wr)) (fun _ _ _ _ _ _ _ _ _ iv _ => H.length - (intOf iv).toNat)
  case atStart => exact ⟨0, _, _, by omega, rfl, rfl, rfl, Lib.hid HL0.out.symm, Lib.hid HI0.out.symm, by omega, Lib.hid (Below.refl _ _)⟩
  case round =>
    obtain ⟨j, lo, hi, hj, rfl, rfl, rfl, HLo, HHi, hlo, HB⟩ := hrel
    obtain ⟨wo, rfl⟩ : ∃ wo : World, wo = wr := ⟨_, rfl⟩
    have hz := HB.out.size
    by_cases hlt : j < H.length
    · have hr : (j + 1) % H.length < H.length := Nat.mod_lt _ hm
      obtain ⟨r, hrr⟩ : ∃ r, r = (j + 1) % H.length := ⟨_, rfl⟩
      rw [← hrr] at hr
      have hc : ∀ u, u < H.length → wo.cell? ⟨gH, u, none⟩ = some (.int .i64 ((H.getD u 0 : Nat) : Int)) := fun u hu => (HB.out.cell (p := ⟨gH, u, none⟩) hgH).trans (HHs.out u hu)
      have pt : ∀ j, j < n * 3 → wo.cell? ⟨bk, off + j, none⟩ = some (.int .i64 (l.getD j 0)) := fun j hj => (HB.out.cell (p := ⟨bk, off + j, none⟩) hbk).trans (HCs.out j hj)
      have b0 := hc j hlt
      have b1 : ∀ o, (wo.alloc o).cell? ⟨gH, r, none⟩ = some (.int .i64 ((H.getD r 0 : Nat) : Int)) := fun o => (World.cell?_alloc_lt wo o ⟨gH, r, none⟩ (by show gH < _; omega)).trans (hc r hr)
      have ha := HH.out j hlt
      have hb := HH.out r hr
      have HDX : Hid (dX (vX (ptF l) H) j = l.getD (H.getD r 0 * 3) 0 - l.getD (H.getD j 0 * 3) 0 ∧ dY (vY (ptF l) H) j = l.getD (H.getD r 0 * 3 + 1) 0 - l.getD (H.getD j 0 * 3 + 1) 0 ∧ nn (vX (ptF l) H) (vY (ptF l) H) j y = (l.getD (H.getD r 0 * 3) 0 - l.getD (H.getD j 0 * 3) 0) * (y - l.getD (H.getD j 0 * 3 + 1) 0) + (l.getD (H.getD r 0 * 3 + 1) 0 - l.getD (H.getD j 0 * 3 + 1) 0) * l.getD (H.getD j 0 * 3) 0) := Lib.hid (by
        unfold nn dX dY vX vY ptF
        rw [← hrr, Nat.mod_eq_of_lt hlt]
        exact ⟨rfl, rfl, rfl⟩)
      have er : ((j : Int) + 1) % (H.length : Int) = (r : Int) := by rw [hrr]; exact (Int.natCast_emod (j + 1) H.length).symm
      have er2 : ((j : Int) + 1).tmod (H.length : Int) = (r : Int) := by rw [Int.tmod_eq_emod_of_nonneg (by omega)]; exact er
      obtain ⟨a, haa⟩ : ∃ a, a = H.getD j 0 := ⟨_, rfl⟩
      obtain ⟨b, hbb⟩ : ∃ a, a = H.getD r 0 := ⟨_, rfl⟩
      rw [← haa] at b0 ha HDX
      rw [← hbb] at b1 hb HDX
      have a0 := pt (a * 3) (by omega)
      have a1 : wo.cell? ⟨bk, off + a * 3 + 1, none⟩ = some (.int .i64 (l.getD (a * 3 + 1) 0)) := pt (a * 3 + 1) (by omega)
      have a2 : wo.cell? ⟨bk, off + a * 3 + 2, none⟩ = some (.int .i64 (l.getD (a * 3 + 2) 0)) := pt (a * 3 + 2) (by omega)
      have c0 : ∀ o, (wo.alloc o).cell? ⟨bk, off + b * 3, none⟩ = some (.int .i64 (l.getD (b * 3) 0)) := fun o => (World.cell?_alloc_lt wo o ⟨bk, off + b * 3, none⟩ (by show bk < _; omega)).trans (pt (b * 3) (by omega))
      have c1 : ∀ o, (wo.alloc o).cell? ⟨bk, off + b * 3 + 1, none⟩ = some (.int .i64 (l.getD (b * 3 + 1) 0)) := fun o => (World.cell?_alloc_lt wo o ⟨bk, off + b * 3 + 1, none⟩ (by show bk < _; omega)).trans (pt (b * 3 + 1) (by omega))
      have c2 : ∀ o, (wo.alloc o).cell? ⟨bk, off + b * 3 + 2, none⟩ = some (.int .i64 (l.getD (b * 3 + 2) 0)) := fun o => (World.cell?_alloc_lt wo o ⟨bk, off + b * 3 + 2, none⟩ (by show bk < _; omega)).trans (pt (b * 3 + 2) (by omega))
      have na : (a : Int) < (n : Int) := by omega
      have nb : (b : Int) < (n : Int) := by omega
      have nr' : (r : Int) < (H.length : Int) := by omega
      have nm : (H.length : Int) ≠ 0 := by omega
      have rc : IntKind.i64.wrap ((j : Int) + 1) = (j : Int) + 1 := by rw [IntKind.wrap_i64]; omega
      have nm3 : H.length ≠ 0 := by omega
      have rr : IntKind.i64.wrap (r : Int) = (r : Int) := by rw [IntKind.wrap_i64]; omega
      have nm2 : ((H.length : Int) == 0) = false := beq_eq_false_iff_ne.2 nm
      have oka := HCo.out a ha
      have okb := HCo.out b hb
      have HNj := Lib.hid (HNb.out j)
      have HS1 := Lib.hid (hiF_s (vX (ptF l) H) (vY (ptF l) H) y j)
      have HS2 := Lib.hid (loF_s (vX (ptF l) H) (vY (ptF l) H) y j)
      clear haa hbb hrr hc pt
      obtain ⟨xa, hxa⟩ : ∃ x, x = l.getD (a * 3) 0 := ⟨_, rfl⟩
      obtain ⟨ya, hya⟩ : ∃ x, x = l.getD (a * 3 + 1) 0 := ⟨_, rfl⟩
      obtain ⟨za, hza⟩ : ∃ x, x = l.getD (a * 3 + 2) 0 := ⟨_, rfl⟩
      obtain ⟨xb, hxb⟩ : ∃ x, x = l.getD (b * 3) 0 := ⟨_, rfl⟩
      obtain ⟨yb, hyb⟩ : ∃ x, x = l.getD (b * 3 + 1) 0 := ⟨_, rfl⟩
      obtain ⟨zb, hzb⟩ : ∃ x, x = l.getD (b * 3 + 2) 0 := ⟨_, rfl⟩
      rw [← hxa, ← hya, ← hxb, ← hyb] at HDX
      rw [← hxa] at a0 oka
      rw [← hya] at a1 oka
      rw [← hza] at a2
      rw [← hxb] at c0 okb
      rw [← hyb] at c1 okb
      rw [← hzb] at c2
      clear hxa hya hza hxb hyb hzb
      unfold okC at oka okb
      obtain ⟨dx, hdx⟩ : ∃ x, x = xb - xa := ⟨_, rfl⟩
      obtain ⟨dy, hdy⟩ : ∃ x, x = yb - ya := ⟨_, rfl⟩
      obtain ⟨ey, hey⟩ : ∃ x, x = y - ya := ⟨_, rfl⟩
      have w1 : IntKind.i64.wrap (xb - xa) = dx := by rw [IntKind.wrap_i64]; omega
      have w2 : IntKind.i64.wrap (yb - ya) = dy := by rw [IntKind.wrap_i64]; omega
      have w3 : IntKind.i64.wrap (y - ya) = ey := by rw [IntKind.wrap_i64]; omega
      rw [← hdx, ← hdy, ← hey] at HDX
      have bdx : -2097152 ≤ dx ∧ dx ≤ 2097152 := by omega
      have bdy : -2097152 ≤ dy ∧ dy ≤ 2097152 := by omega
      have bey : -2097152 ≤ ey ∧ ey ≤ 2097152 := by omega
      have m1 : -4398046511104 ≤ dx * ey ∧ dx * ey ≤ 4398046511104 := by
        have := Int.natAbs_mul dx ey
        have h2 : dx.natAbs * ey.natAbs ≤ 2097152 * 2097152 := Nat.mul_le_mul (by omega) (by omega)
        omega
      have m2 : -4398046511104 ≤ dy * xa ∧ dy * xa ≤ 4398046511104 := by
        have := Int.natAbs_mul dy xa
        have h2 : dy.natAbs * xa.natAbs ≤ 2097152 * 2097152 := Nat.mul_le_mul (by omega) (by omega)
        omega
      obtain ⟨p, hp⟩ : ∃ x, x = dx * ey := ⟨_, rfl⟩
      obtain ⟨q, hq⟩ : ∃ x, x = dy * xa := ⟨_, rfl⟩
      rw [← hp] at m1 HDX
      rw [← hq] at m2 HDX
      have w4 : IntKind.i64.wrap (dx * ey) = p := by rw [← hp, IntKind.wrap_i64]; omega
      have w5 : IntKind.i64.wrap (dy * xa) = q := by rw [← hq, IntKind.wrap_i64]; omega
      obtain ⟨nv, hnv⟩ : ∃ x, x = p + q := ⟨_, rfl⟩
      have w6 : IntKind.i64.wrap (p + q) = nv := by rw [IntKind.wrap_i64]; omega
      rw [← hnv] at HDX
      have bnv : -9007199254740992 ≤ nv ∧ nv ≤ 9007199254740992 := by omega
      have HBn := Lib.hid ((HB.out.alloc hz (.cells #[.int .i64 xa, .int .i64 ya, .int .i64 za] 63)).alloc (by simp; omega) (.cells #[.int .i64 xb, .int .i64 yb, .int .i64 zb] 63))
      clear hp hq hnv hdx hdy hey m1 m2
      rw [HDX.out.2.1, HDX.out.2.2] at HS1 HS2
      rcases Int.lt_trichotomy dy 0 with d | d | d
      · have t1 : decide (dy < 0) = true := decide_eq_true d
        have t2 : decide (0 < dy) = false := decide_eq_false (by omega)
        have w7 : IntKind.i64.wrap (-dy) = -dy := by rw [IntKind.wrap_i64]; omega
        have fb := floor_bd (a := nv) (b := -dy) (by omega) bnv
        have HE1 := HS1.out
        rw [if_neg (by omega)] at HE1
        have HE2 := HS2.out
        rw [if_pos d] at HE2
        obtain ⟨f, hf⟩ : ∃ f, f = nv / -dy := ⟨_, rfl⟩
        rw [← hf] at fb HE2
        have w8 : IntKind.i64.wrap (-f) = -f := by rw [IntKind.wrap_i64]; omega
        have HF := Lib.hid fun W => HFl.out nv (-dy) W (by omega) bnv (by omega)
        rw [← hf] at HF
        have HE1' := Lib.hid HE1
        have HE2' := Lib.hid HE2
        clear hf HE1 HE2 oka okb bdx bey
        go_wp2_with (go_at_call 57; refine (HF.out _).mono ?_; rintro e w3 ⟨rfl, q, rfl⟩)
        all_goals go_roundw
        case rel => exact ⟨j + 1, _, _, by omega, by go_num, rfl, rfl, Lib.hid (by rw [HE2'.out, ← HLo.out]), Lib.hid (by rw [HE1'.out, ← HHi.out]), by omega, Lib.hid (below_drewN HBn.out _)⟩
        case measure => simp [intOf]; omega
      · have t1 : decide (dy < 0) = false := decide_eq_false (by omega)
        have t3 : decide (0 < dy) = false := decide_eq_false (by omega)
        have HE1 := HS1.out
        rw [if_neg (by omega)] at HE1
        have HE2 := HS2.out
        rw [if_neg (by omega)] at HE2
        have hge : ¬ nv < 0 := fun h => HNj.out ⟨HDX.out.2.1.trans d, by rw [HDX.out.2.2]; exact h⟩
        have t2 : decide (nv < 0) = false := decide_eq_false hge
        have HE1' := Lib.hid HE1
        have HE2' := Lib.hid HE2
        clear HE1 HE2 oka okb bdx bey hge d bdy
        go_wp2_with fail
        all_goals go_roundw
        case rel => exact ⟨j + 1, _, _, by omega, by go_num, rfl, rfl, Lib.hid (by rw [HE2'.out, ← HLo.out]), Lib.hid (by rw [HE1'.out, ← HHi.out]), by omega, HBn⟩
        case measure => simp [intOf]; omega
      · have t1 : decide (dy < 0) = false := decide_eq_false (by omega)
        have t2 : decide (0 < dy) = true := decide_eq_true d
        have HE1 := HS1.out
        rw [if_pos d] at HE1
        have HE2 := HS2.out
        rw [if_neg (by omega)] at HE2
        obtain ⟨f, hf⟩ : ∃ f, f = nv / dy := ⟨_, rfl⟩
        rw [← hf] at HE1
        have HF := Lib.hid fun W => HFl.out nv dy W (by omega) bnv (by omega)
        rw [← hf] at HF
        have HE1' := Lib.hid HE1
        have HE2' := Lib.hid HE2
        clear hf HE1 HE2 oka okb bdx bey
        go_wp2_with (go_at_call 57; refine (HF.out _).mono ?_; rintro e w3 ⟨rfl, q, rfl⟩)
        all_goals go_roundw
        case rel => exact ⟨j + 1, _, _, by omega, by go_num, rfl, rfl, Lib.hid (by rw [HE2'.out, ← HLo.out]), Lib.hid (by rw [HE1'.out, ← HHi.out]), by omega, Lib.hid (below_drewN HBn.out _)⟩
        case measure => simp [intOf]; omega
    · obtain rfl : j = H.length := by omega
      go_wp2_with fail
      go_ret3
      exact ⟨by rw [HLo.out, HHi.out]; rfl, HB.out⟩
end Go.Proofs.Ythiccmncdmohbaa
