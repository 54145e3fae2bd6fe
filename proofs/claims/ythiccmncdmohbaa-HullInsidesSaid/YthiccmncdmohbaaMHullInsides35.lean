/-
  Contracts of hull.edges, hull.area and hull.Area: twice the area, by the edges. Conditions: the points can be read as data.
-/
import Derived.Test.YthiccmncdmohbaaMHullInsides34
import Derived.Deep.RegionHeld3
set_option linter.unusedVariables false
set_option linter.unusedSimpArgs false
namespace Go.Dam.Hull
/-- The numbers of a point, as a value. -/
def ptAgg (l : List Int) (i : Nat) : Value := .agg #[.int .i64 (l.getD (i * 3) 0), .int .i64 (l.getD (i * 3 + 1) 0), .int .i64 (l.getD (i * 3 + 2) 0)]
theorem mul20 {p q : Int} (h1 : okC p) (h2 : okC q) : -1099511627776 ≤ p * q ∧ p * q ≤ 1099511627776 := by
  unfold okC at *
  have e1 : 0 ≤ (p + 1048576) * (q + 1048576) := Int.mul_nonneg (by omega) (by omega)
  have e2 : 0 ≤ (1048576 - p) * (1048576 - q) := Int.mul_nonneg (by omega) (by omega)
  have e3 : 0 ≤ (p + 1048576) * (1048576 - q) := Int.mul_nonneg (by omega) (by omega)
  have e4 : 0 ≤ (1048576 - p) * (q + 1048576) := Int.mul_nonneg (by omega) (by omega)
  simp only [Int.add_mul, Int.mul_add, Int.sub_mul, Int.mul_sub] at e1 e2 e3 e4
  omega
theorem shoe_0 (F : Nat → Pt) (H : List Nat) : shoe F H 0 = 0 := by with_unfolding_all rfl
theorem shoe_s (F : Nat → Pt) (H : List Nat) (k : Nat) : shoe F H (k + 1) = shoe F H k + det (F (H.getD k 0)) (F (H.getD ((k + 1) % H.length) 0)) := by with_unfolding_all rfl
theorem fan_low (F : Nat → Pt) (H : List Nat) : ∀ k, k ≤ 2 → fan F H k = 0
  | 0, _ => by with_unfolding_all rfl
  | 1, _ => by with_unfolding_all rfl
  | 2, _ => by with_unfolding_all rfl
  | k + 3, h => by omega
theorem fan_s (F : Nat → Pt) (H : List Nat) (k : Nat) : fan F H (k + 3) = fan F H (k + 2) + crs (F (H.getD 0 0)) (F (H.getD (k + 1) 0)) (F (H.getD (k + 2) 0)) := by with_unfolding_all rfl
theorem crs_bd {a b c : Pt} (h1 : okC a.1) (h2 : okC a.2) (h3 : okC b.1) (h4 : okC b.2) (h5 : okC c.1) (h6 : okC c.2) : -8796093022208 ≤ crs a b c ∧ crs a b c ≤ 8796093022208 := by
  have m1 := mul20 h3 h6
  have m2 := mul20 h3 h2
  have m3 := mul20 h1 h6
  have m4 := mul20 h1 h2
  have m5 := mul20 h5 h4
  have m6 := mul20 h5 h2
  have m7 := mul20 h1 h4
  unfold crs
  simp only [Int.sub_mul, Int.mul_sub]
  omega
theorem fan_bd {F : Nat → Pt} {H : List Nat} (h : ∀ u, okC (F (H.getD u 0)).1 ∧ okC (F (H.getD u 0)).2) : ∀ k : Nat, -8796093022208 * (k : Int) ≤ fan F H k ∧ fan F H k ≤ 8796093022208 * (k : Int)
  | 0 => by rw [fan_low F H 0 (by omega)]; omega
  | 1 => by rw [fan_low F H 1 (by omega)]; omega
  | 2 => by rw [fan_low F H 2 (by omega)]; omega
  | k + 3 => by
    have ih := fan_bd h (k + 2)
    have d := crs_bd (h 0).1 (h 0).2 (h (k + 1)).1 (h (k + 1)).2 (h (k + 2)).1 (h (k + 2)).2
    rw [fan_s]
    push_cast at ih ⊢
    omega
theorem okH_all {l : List Int} {H : List Nat} {n : Nat} (hm : 0 < H.length) (hH : ∀ u, u < H.length → H.getD u 0 < n) (hco : ∀ i, i < n → okC (l.getD (i * 3) 0) ∧ okC (l.getD (i * 3 + 1) 0)) : ∀ u, okC (ptF l (H.getD u 0)).1 ∧ okC (ptF l (H.getD u 0)).2 := fun u => by
  rcases Nat.lt_or_ge u H.length with h | h
  · exact hco _ (hH u h)
  · have e : H.getD u 0 = 0 := by simp [List.getD, List.getElem?_eq_none h]
    rw [e]
    exact hco 0 (by have := hH 0 hm; omega)
theorem det_bd {a b : Pt} (h1 : okC a.1) (h2 : okC a.2) (h3 : okC b.1) (h4 : okC b.2) : -2199023255552 ≤ det a b ∧ det a b ≤ 2199023255552 := by
  have m1 := mul20 h1 h4
  have m2 := mul20 h2 h3
  unfold det
  omega
theorem shoe_bd {F : Nat → Pt} {H : List Nat} (h : ∀ u, okC (F (H.getD u 0)).1 ∧ okC (F (H.getD u 0)).2) : ∀ k : Nat, -2199023255552 * (k : Int) ≤ shoe F H k ∧ shoe F H k ≤ 2199023255552 * (k : Int)
  | 0 => by rw [shoe_0]; omega
  | k + 1 => by
    have ih := shoe_bd h k
    have d := det_bd (h k).1 (h k).2 (h ((k + 1) % H.length)).1 (h ((k + 1) % H.length)).2
    rw [shoe_s]
    push_cast
    omega
end Go.Dam.Hull
namespace Go.Proofs.Ythiccmncdmohbaa
open Go Go.RowKit Go.Dam Go.Dam.Hull
set_option linter.unusedVariables false
set_option maxRecDepth 100000 in
set_option maxHeartbeats 8000000 in
theorem hullEdges_any (n c bk off : Nat) (l : List Int) (H : List Nat) (m co gH g : Nat) (lb : Array Value) (J : Nat → World → Prop) (w : World) (hn : n ≤ 1000) (hm : 0 < m) (hm2 : m ≤ 1000) (hH : ∀ u, u < m → H.getD u 0 < n)
    (eg : ∀ args w, (callFunc g args).run Try.prog w = .ok (.enter g args) w) (hJd : ∀ j W q, J j W → J j (W.drewN q))
    (hJc : ∀ j W, J j W → (∀ q, q < n * 3 → W.cell? ⟨bk, off + q, none⟩ = some (.int .i64 (l.getD q 0))) ∧ ∀ u, u < m → W.cell? ⟨gH, u, none⟩ = some (.int .i64 ((H.getD u 0 : Nat) : Int)))
    (hcall : ∀ j W, j < m → J j W → Calls Try.prog g (#[ptAgg l (H.getD j 0), ptAgg l (H.getD ((j + 1) % m) 0)] ++ lb) W fun e w' => e = .returned (.tuple #[]) ∧ J (j + 1) w') (h0 : J 0 w) :
    Calls Try.prog 23 #[.slice (some ⟨bk, off, none⟩) n c, .slice (some ⟨gH, 0, none⟩) m co, .func (.func g) #[] lb] w fun e w' => e = .returned (.tuple #[]) ∧ J m w' := by
  have HJd := Lib.hid hJd
  have HJc := Lib.hid hJc
  have HCa := Lib.hid hcall
  have HH := Lib.hid hH
  have H0 := Lib.hid h0
  clear hJd hJc hcall hH h0
  go_enter Try.func23, Try.ntmps23
  go_wp2
  go_loopw [6, 7, 10] (fun _ _ iv wr => ∃ j : Nat, j ≤ m ∧ iv = .int .i64 j ∧ Hid (J j wr)) (fun _ _ iv _ => m - (intOf iv).toNat)
  case atStart => exact ⟨0, by omega, rfl, H0⟩
  case round =>
    obtain ⟨j, hj, rfl, HJ⟩ := hrel
    by_cases hlt : j < m
    · have hc := HJc.out j wr HJ.out
      have hr : (j + 1) % m < m := Nat.mod_lt _ hm
      have b0 := hc.2 j hlt
      have b1 := hc.2 _ hr
      have ha := HH.out j hlt
      have hb := HH.out _ hr
      have HCj := Lib.hid fun W hW => HCa.out j W hlt hW
      obtain ⟨r, hrr⟩ : ∃ r, r = (j + 1) % m := ⟨_, rfl⟩
      rw [← hrr] at b1 hb hr HCj
      have er : ((j : Int) + 1) % (m : Int) = (r : Int) := by rw [hrr]; exact (Int.natCast_emod (j + 1) m).symm
      have er2 : ((j : Int) + 1).tmod (m : Int) = (r : Int) := by rw [Int.tmod_eq_emod_of_nonneg (by omega)]; exact er
      obtain ⟨a, haa⟩ : ∃ a, a = H.getD j 0 := ⟨_, rfl⟩
      obtain ⟨b, hbb⟩ : ∃ a, a = H.getD r 0 := ⟨_, rfl⟩
      rw [← haa] at b0 ha HCj
      rw [← hbb] at b1 hb HCj
      have a0 := hc.1 (a * 3) (by omega)
      have a1 : wr.cell? ⟨bk, off + a * 3 + 1, none⟩ = some (.int .i64 (l.getD (a * 3 + 1) 0)) := hc.1 (a * 3 + 1) (by omega)
      have a2 : wr.cell? ⟨bk, off + a * 3 + 2, none⟩ = some (.int .i64 (l.getD (a * 3 + 2) 0)) := hc.1 (a * 3 + 2) (by omega)
      have c0 := hc.1 (b * 3) (by omega)
      have c1 : wr.cell? ⟨bk, off + b * 3 + 1, none⟩ = some (.int .i64 (l.getD (b * 3 + 1) 0)) := hc.1 (b * 3 + 1) (by omega)
      have c2 : wr.cell? ⟨bk, off + b * 3 + 2, none⟩ = some (.int .i64 (l.getD (b * 3 + 2) 0)) := hc.1 (b * 3 + 2) (by omega)
      have na : (a : Int) < (n : Int) := by omega
      have nb : (b : Int) < (n : Int) := by omega
      have nr' : (r : Int) < (m : Int) := by omega
      have nm : (m : Int) ≠ 0 := by omega
      have rc : IntKind.i64.wrap ((j : Int) + 1) = (j : Int) + 1 := by rw [IntKind.wrap_i64]; omega
      have nm3 : m ≠ 0 := by omega
      have rr : IntKind.i64.wrap (r : Int) = (r : Int) := by rw [IntKind.wrap_i64]; omega
      have nm2 : ((m : Int) == 0) = false := beq_eq_false_iff_ne.2 nm
      have HAB := Lib.hid (And.intro haa hbb)
      clear hc haa hbb hrr
      have HCj2 : Hid (Calls Try.prog g (#[.agg #[.int .i64 (l.getD (a * 3) 0), .int .i64 (l.getD (a * 3 + 1) 0), .int .i64 (l.getD (a * 3 + 2) 0)], .agg #[.int .i64 (l.getD (b * 3) 0), .int .i64 (l.getD (b * 3 + 1) 0), .int .i64 (l.getD (b * 3 + 2) 0)]] ++ lb) wr.drew fun e w' => e = .returned (.tuple #[]) ∧ J (j + 1) w') := Lib.hid (HCj.out wr.drew (HJd.out j wr 1 HJ.out))
      have HKp : Hid (∀ W, J (j + 1) W → W.cell? ⟨gH, j, none⟩ = some (.int .i64 (a : Int)) ∧ W.cell? ⟨gH, r, none⟩ = some (.int .i64 (b : Int)) ∧ W.cell? ⟨bk, off + a * 3, none⟩ = some (.int .i64 (l.getD (a * 3) 0)) ∧ W.cell? ⟨bk, off + a * 3 + 1, none⟩ = some (.int .i64 (l.getD (a * 3 + 1) 0)) ∧ W.cell? ⟨bk, off + a * 3 + 2, none⟩ = some (.int .i64 (l.getD (a * 3 + 2) 0)) ∧ W.cell? ⟨bk, off + b * 3, none⟩ = some (.int .i64 (l.getD (b * 3) 0)) ∧ W.cell? ⟨bk, off + b * 3 + 1, none⟩ = some (.int .i64 (l.getD (b * 3 + 1) 0)) ∧ W.cell? ⟨bk, off + b * 3 + 2, none⟩ = some (.int .i64 (l.getD (b * 3 + 2) 0))) := Lib.hid fun W hW => by
        have h := HJc.out (j + 1) W hW
        exact ⟨by rw [HAB.out.1]; exact h.2 j hlt, by rw [HAB.out.2]; exact h.2 r hr, h.1 (a * 3) (by omega), h.1 (a * 3 + 1) (by omega), h.1 (a * 3 + 2) (by omega), h.1 (b * 3) (by omega), h.1 (b * 3 + 1) (by omega), h.1 (b * 3 + 2) (by omega)⟩
      clear HCj
      obtain ⟨xa, hxa⟩ : ∃ x, x = l.getD (a * 3) 0 := ⟨_, rfl⟩
      obtain ⟨ya, hya⟩ : ∃ x, x = l.getD (a * 3 + 1) 0 := ⟨_, rfl⟩
      obtain ⟨za, hza⟩ : ∃ x, x = l.getD (a * 3 + 2) 0 := ⟨_, rfl⟩
      obtain ⟨xb, hxb⟩ : ∃ x, x = l.getD (b * 3) 0 := ⟨_, rfl⟩
      obtain ⟨yb, hyb⟩ : ∃ x, x = l.getD (b * 3 + 1) 0 := ⟨_, rfl⟩
      obtain ⟨zb, hzb⟩ : ∃ x, x = l.getD (b * 3 + 2) 0 := ⟨_, rfl⟩
      rw [← hxa, ← hya, ← hza, ← hxb, ← hyb, ← hzb] at HCj2 HKp
      rw [← hxa] at a0
      rw [← hya] at a1
      rw [← hza] at a2
      rw [← hxb] at c0
      rw [← hyb] at c1
      rw [← hzb] at c2
      clear hxa hya hza hxb hyb hzb
      go_wp2_with fail
      go_region_held3 (fun W => W.cell? ⟨gH, j, none⟩ = some (.int .i64 (a : Int)) ∧ W.cell? ⟨gH, r, none⟩ = some (.int .i64 (b : Int)) ∧ W.cell? ⟨bk, off + a * 3, none⟩ = some (.int .i64 xa) ∧ W.cell? ⟨bk, off + a * 3 + 1, none⟩ = some (.int .i64 ya) ∧ W.cell? ⟨bk, off + a * 3 + 2, none⟩ = some (.int .i64 za) ∧ W.cell? ⟨bk, off + b * 3, none⟩ = some (.int .i64 xb) ∧ W.cell? ⟨bk, off + b * 3 + 1, none⟩ = some (.int .i64 yb) ∧ W.cell? ⟨bk, off + b * 3 + 2, none⟩ = some (.int .i64 zb))
        (first
          | exact ⟨b0, b1, a0, a1, a2, c0, c1, c2⟩
          | exact HKp.out _ (by assumption))
        (first
          | (go_at_fn g; refine HCj2.out.mono ?_; rintro e w' ⟨rfl, hJ⟩))
      clear a0 a1 a2 b0 b1 c0 c1 c2
      go_wp2
      go_roundw
      case rel =>
        have hJ := Lib.hid (by assumption : J (j + 1) _)
        exact ⟨j + 1, by omega, by go_num, hJ⟩
      case measure => simp [intOf]; omega
    · obtain rfl : j = m := by omega
      go_wp2
      go_end0
      exact ⟨rfl, HJ.out⟩
set_option maxHeartbeats 1000000 in
theorem hullArea1_any (xa ya za xb yb zb s : Int) (gB : Nat) (t : TypeId) (w : World) (hB : Blk w gB t #[.int .i64 s]) (h1 : okC xa) (h2 : okC ya) (h3 : okC xb) (h4 : okC yb) (h5 : -2305843009213693952 ≤ s) (h6 : s ≤ 2305843009213693952) :
    Calls Try.prog 55 #[.agg #[.int .i64 xa, .int .i64 ya, .int .i64 za], .agg #[.int .i64 xb, .int .i64 yb, .int .i64 zb], .pointer (some ⟨gB, 0, none⟩)] w fun e w' => e = .returned (.tuple #[]) ∧
      w' = ((w.setCell ⟨gB, 0, none⟩ (.int .i64 (s + det (xa, ya) (xb, yb)))).alloc (.cells #[.int .i64 xa, .int .i64 ya, .int .i64 za] 63)).alloc (.cells #[.int .i64 xb, .int .i64 yb, .int .i64 zb] 63) := by
  have m1 := mul20 h1 h4
  have m2 := mul20 h2 h3
  have HD : Hid (det (xa, ya) (xb, yb) = xa * yb - ya * xb) := Lib.hid (by unfold det; rfl)
  obtain ⟨p, hp⟩ : ∃ p, p = xa * yb := ⟨_, rfl⟩
  obtain ⟨q, hq⟩ : ∃ q, q = ya * xb := ⟨_, rfl⟩
  rw [← hp] at m1 HD
  rw [← hq] at m2 HD
  have w1 : IntKind.i64.wrap (xa * yb) = p := by rw [IntKind.wrap_i64]; omega
  have w2 : IntKind.i64.wrap (ya * xb) = q := by rw [IntKind.wrap_i64]; omega
  have w3 : IntKind.i64.wrap (p - q) = p - q := by rw [IntKind.wrap_i64]; omega
  have w4 : IntKind.i64.wrap (s + (p - q)) = s + (p - q) := by rw [IntKind.wrap_i64]; omega
  have lt := hB.lt
  have hb2 : Blk ((w.alloc (.cells #[.int .i64 xa, .int .i64 ya, .int .i64 za] 63)).alloc (.cells #[.int .i64 xb, .int .i64 yb, .int .i64 zb] 63)) gB t #[.int .i64 s] := (hB.alloc _).alloc _
  have c0 : ((w.alloc (.cells #[.int .i64 xa, .int .i64 ya, .int .i64 za] 63)).alloc (.cells #[.int .i64 xb, .int .i64 yb, .int .i64 zb] 63)).cell? ⟨gB, 0, none⟩ = some (.int .i64 s) := hb2.cell 0
  have f0 := hb2.frozen 0
  rw [HD.out]
  clear hp hq m1 m2 h1 h2 h3 h4 hB hb2
  go_enter Try.func55, Try.ntmps55
  go_wp2_with fail
  go_end0
  exact ⟨rfl, rfl⟩
set_option maxHeartbeats 2000000 in
theorem hullArea0_any (n c bk off : Nat) (l : List Int) (H : List Nat) (co gH : Nat) (w : World) (hn : n ≤ 1000) (hm : 0 < H.length) (hm2 : H.length ≤ 1000) (hH : ∀ u, u < H.length → H.getD u 0 < n)
    (hco : ∀ i, i < n → okC (l.getD (i * 3) 0) ∧ okC (l.getD (i * 3 + 1) 0)) (hbk : bk < w.heap.size) (hgH : gH < w.heap.size)
    (hcs : ∀ q, q < n * 3 → w.cell? ⟨bk, off + q, none⟩ = some (.int .i64 (l.getD q 0))) (hhs : ∀ u, u < H.length → w.cell? ⟨gH, u, none⟩ = some (.int .i64 ((H.getD u 0 : Nat) : Int))) :
    Calls Try.prog 26 #[.slice (some ⟨bk, off, none⟩) n c, .slice (some ⟨gH, 0, none⟩) H.length co] w fun e w' => e = .returned (.int .i64 (shoe (ptF l) H H.length)) ∧ Below w.heap.size w w' := by
  have hok : ∀ u, u < H.length → okC (ptF l (H.getD u 0)).1 ∧ okC (ptF l (H.getD u 0)).2 := fun u hu => hco _ (hH u hu)
  have hok0 := okH_all hm hH hco
  have HE := Lib.hid (hullEdges_any n c bk off l H H.length co gH 55 #[.pointer (some ⟨w.heap.size, 0, none⟩)] (fun j W => Below w.heap.size w W ∧ Blk W w.heap.size 3 #[.int .i64 (shoe (ptF l) H j)])
    (w.alloc (.cells #[.int .i64 0] 3)) hn hm hm2 hH (enters_of Try.func55 (by kernel_rfl) rfl)
    (fun j W q h => ⟨below_drewN h.1 q, h.2.drewN q⟩)
    (fun j W h => ⟨fun q hq => (h.1.cell (p := ⟨bk, off + q, none⟩) hbk).trans (hcs q hq), fun u hu => (h.1.cell (p := ⟨gH, u, none⟩) hgH).trans (hhs u hu)⟩)
    (fun j W hj h => by
      have hr : (j + 1) % H.length < H.length := Nat.mod_lt _ hm
      have b := shoe_bd hok0 j
      have ha := hok j hj
      have hb := hok _ hr
      refine (hullArea1_any _ _ _ _ _ _ _ w.heap.size 3 W h.2 ha.1 ha.2 hb.1 hb.2 (by omega) (by omega)).mono ?_
      rintro e w' ⟨rfl, rfl⟩
      refine ⟨rfl, (((h.1.setCell (by simp) _).alloc (by have := h.1.size; simp [World.setCell]; omega) _).alloc (by have := h.1.size; simp [World.setCell]; omega) _), ?_⟩
      rw [shoe_s]
      have := ((h.2.set_ 0 (.int .i64 (shoe (ptF l) H j + det (ptF l (H.getD j 0)) (ptF l (H.getD ((j + 1) % H.length) 0))))).alloc (.cells #[.int .i64 (l.getD (H.getD j 0 * 3) 0), .int .i64 (l.getD (H.getD j 0 * 3 + 1) 0), .int .i64 (l.getD (H.getD j 0 * 3 + 2) 0)] 63)).alloc (.cells #[.int .i64 (l.getD (H.getD ((j + 1) % H.length) 0 * 3) 0), .int .i64 (l.getD (H.getD ((j + 1) % H.length) 0 * 3 + 1) 0), .int .i64 (l.getD (H.getD ((j + 1) % H.length) 0 * 3 + 2) 0)] 63)
      exact this)
    ⟨(Below.refl _ _).alloc (Nat.le_refl _) _, by rw [shoe_0]; exact Blk.new _ _ _⟩)
  clear hcs hhs hco hok hok0 hH
  go_enter Try.func26, Try.ntmps26
  go_wp2_with (go_at_call 23; refine (HE.out).mono ?_; rintro e w1 ⟨rfl, hb1, hk1⟩; have c1 : w1.cell? ⟨w.heap.size, 0, none⟩ = some (.int .i64 (shoe (ptF l) H H.length)) := hk1.cell 0)
  go_ret
  exact ⟨rfl, hb1⟩
end Go.Proofs.Ythiccmncdmohbaa
