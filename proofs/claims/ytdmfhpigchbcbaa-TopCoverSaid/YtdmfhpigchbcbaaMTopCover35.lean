/-
  Texts of one claim behind each other. Conditions: none of its own.
-/
import Derived.Test.YtdmfhpigchbcbaaMTopCover18
import Derived.Test.YtdmfhpigchbcbaaMTopCover28
import Derived.Test.YtdmfhpigchbcbaaMTopCover34
import Derived.Test.YtdmfhpigchbcbaaMTopCover17
/-
  Plain laws of grid.Count, no program in sight: what the wave of the ranks counts below a number is what the points count; two such counts are what a rectangle holds. Conditions: none.
-/
namespace Go.Dam
open Go Go.RowKit
set_option linter.unusedVariables false
/-- How many of the places between a and b of the order have an Y below y (or at it). -/
def belowN (l : List Int) (r : List Nat) (n a b : Nat) (y : Int) (at_ : Bool) : Nat := countN (fun j => decide (a ≤ j ∧ j < b) && !isAb (yOf l r j) y at_) n
theorem belowN_le (l : List Int) (r : List Nat) (n a b : Nat) (y : Int) (at_ : Bool) : belowN l r n a b y at_ ≤ n := countN_le _ _
theorem ysOf_at {l : List Int} {r : List Nat} {j : Nat} (h : j < r.length) : (ysOf l r).getD j 0 = yOf l r j := by
  unfold ysOf yOf
  rw [List.getD_eq_getElem?_getD, List.getElem?_map, List.getElem?_eq_getElem h, ge_at r h]; rfl
theorem idx_rank {l : List Int} {n : Nat} {r : List Nat} {vals rs : List Int} {wss : List (List Nat)} {cc : Int} (h : IdxR l n r vals rs wss cc) {j : Nat} (hj : j < n) : ∃ k : Nat, rs.getD j 0 = k ∧ k < vals.length ∧ vals.getD k 0 = yOf l r j := by
  obtain ⟨hO, ⟨hV, hl, hR⟩, _⟩ := h
  have hlen := hO.len
  have hy : (ysOf l r).length = n := by unfold ysOf; rw [List.length_map, hlen]
  obtain ⟨k, e, hk⟩ := hR j (by omega)
  have hmem : (ysOf l r).getD j 0 ∈ vals := (hV.2 _).2 (getD_in _ (by omega))
  obtain ⟨h1, h2⟩ := hV.at_rank hmem
  have := rankOf_less hV.asc _ k hk
  rw [this] at h1 h2
  exact ⟨k, e, h1, by rw [h2, ysOf_at (by omega)]⟩
theorem idx_vals {l : List Int} {n : Nat} {r : List Nat} {vals rs : List Int} {wss : List (List Nat)} {cc : Int} (h : IdxR l n r vals rs wss cc) : vals.length ≤ n := by
  have := h.2.1.1.len
  unfold ysOf at this
  rw [List.length_map, h.1.len] at this
  exact this
theorem idx_rs {l : List Int} {n : Nat} {r : List Nat} {vals rs : List Int} {wss : List (List Nat)} {cc : Int} (h : IdxR l n r vals rs wss cc) : rs.length = n := by
  have := h.2.1.2.1
  unfold ysOf at this
  rw [List.length_map, h.1.len] at this
  exact this
theorem idx_ok {l : List Int} {n : Nat} {r : List Nat} {vals rs : List Int} {wss : List (List Nat)} {cc : Int} (h : IdxR l n r vals rs wss cc) (hn : n ≤ 150) : ∀ j, j < rs.length → okZ 8 (rs.getD j 0) := fun j hj => by
  rw [idx_rs h] at hj
  obtain ⟨k, e, h1, _⟩ := idx_rank h hj
  have := idx_vals h
  rw [e]
  exact ⟨by omega, by have : (2 : Int) ^ 8 = 256 := by decide
                      omega⟩
theorem idx_made {l : List Int} {n : Nat} {r : List Nat} {vals rs : List Int} {wss : List (List Nat)} {cc : Int} (h : IdxR l n r vals rs wss cc) (hn : n ≤ 150) : (wss.map fun ws => ((n : Int), ws)) = madeRows 8 rs := by
  have hl := idx_rs h
  have hok := idx_ok h hn
  rcases h.2.2 with ⟨h1, _⟩ | ⟨_, h1, _⟩ | ⟨_, _, _, ⟨j, hj, h1⟩, _⟩ | ⟨_, _, _, _, h1, _⟩
  · omega
  · omega
  · exact absurd (hok j hj) h1
  · rw [h1]; unfold madeRows; rw [hl]; rfl
theorem vals_mono {l vs : List Int} (h : ValsR l vs) {y : Int} {a : Bool} {i j : Nat} (hij : i ≤ j) (hj : j < vs.length) (hi : isAb (vs.getD i 0) y a = true) : isAb (vs.getD j 0) y a = true := isAb_mono (h.asc i j hij hj) hi
theorem idx_below {l : List Int} {n a b K : Nat} {r : List Nat} {vals rs : List Int} {wss : List (List Nat)} {cc y : Int} {at_ : Bool} (h : IdxR l n r vals rs wss cc) (hn : n ≤ 150) (hab : a ≤ b) (hb : b ≤ n) (hK : BoundOf (fun i => isAb (vals.getD i 0) y at_) vals.length K) :
    (sW (wss.map fun ws => ((n : Int), ws)) n a b).countP (fun z => decide (z < (K : Int))) = belowN l r n a b y at_ := by
  have hl := idx_rs h
  rw [idx_made h hn]
  have := made_below (idx_ok h hn) hab (by omega : b ≤ rs.length) (K : Int)
  rw [hl] at this
  rw [this]
  unfold belowN
  refine countN_congr fun j hj => ?_
  congr 1
  obtain ⟨k, e, h1, h2⟩ := idx_rank h hj
  rw [e, ← h2]
  by_cases hk : k < K
  · have := hK.2.1 k hk
    simp only at this
    rw [this, decide_eq_true (by omega)]; rfl
  · have := hK.2.2 k (by omega) h1
    simp only at this
    rw [this, decide_eq_false (by omega)]; rfl
/-- The places of a segment of the order. -/
theorem seg_count (r : List Nat) (p : Nat → Bool) : ∀ n, n ≤ r.length → ∀ a b, a ≤ b → b ≤ n → countN (fun j => decide (a ≤ j ∧ j < b) && p (r.getD j 0)) n = ((r.drop a).take (b - a)).countP p
  | 0, _, a, b, hab, hb => by
    obtain rfl : b = 0 := by omega
    obtain rfl : a = 0 := by omega
    rw [countN_0]; simp
  | n + 1, hn, a, b, hab, hb => by
    rw [countN_succ]
    by_cases hbn : b ≤ n
    · rw [seg_count r p n (by omega) a b hab hbn, decide_eq_false (by omega)]; simp
    · obtain rfl : b = n + 1 := by omega
      by_cases han : a ≤ n
      · have e : countN (fun j => decide (a ≤ j ∧ j < n + 1) && p (r.getD j 0)) n = countN (fun j => decide (a ≤ j ∧ j < n) && p (r.getD j 0)) n := countN_congr fun j hj => by
          congr 1
          by_cases h : a ≤ j <;> simp [h] <;> omega
        rw [e, seg_count r p n (by omega) a n han (Nat.le_refl _)]
        have e2 : n + 1 - a = (n - a) + 1 := by omega
        rw [e2, List.take_add_one, List.countP_append, List.getElem?_drop, show a + (n - a) = n by omega, List.getElem?_eq_getElem (by omega), ge_at r (by omega : n < r.length), decide_eq_true ⟨han, by omega⟩]
        simp [List.countP_cons]
      · obtain rfl : a = n + 1 := by omega
        rw [decide_eq_false (by omega)]
        have e : countN (fun j => decide (n + 1 ≤ j ∧ j < n + 1) && p (r.getD j 0)) n = 0 := countN_none fun j hj => by rw [decide_eq_false (by omega)]; rfl
        rw [e]; simp
theorem countP_sub {α : Type} {p q s : α → Bool} : ∀ r : List α, (∀ i ∈ r, (p i = true ↔ (q i = true ∨ s i = true)) ∧ ¬ (q i = true ∧ s i = true)) → r.countP p = r.countP q + r.countP s
  | [], _ => rfl
  | x :: r, h => by
    have ih := countP_sub r fun i hi => h i (List.mem_cons_of_mem _ hi)
    have hx := h x (List.mem_cons_self)
    rw [List.countP_cons, List.countP_cons, List.countP_cons, ih]
    cases hp : p x <;> cases hq : q x <;> cases hs : s x <;> simp_all <;> omega
/-- The Y of a place. -/
def yPl (l : List Int) (i : Nat) : Int := l.getD (i * 3 + 1) 0
theorem belowN_seg {l : List Int} {r : List Nat} {n a b : Nat} (hr : r.length = n) (hab : a ≤ b) (hb : b ≤ n) (y : Int) (at_ : Bool) : belowN l r n a b y at_ = ((r.drop a).take (b - a)).countP fun i => !isAb (yPl l i) y at_ := by
  have := seg_count r (fun i => !isAb (yPl l i) y at_) n (by omega) a b hab hb
  rw [← this]; rfl
/-- Of the columns a place is in the rectangle by its Y alone. -/
theorem cols_in {l : List Int} {n a b : Nat} {r : List Nat} {x0 y0 x1 y1 : Int} (hr : r.length = n) (h : ColsAt l r n x0 x1 a b) {i : Nat} (hi : i ∈ (r.drop a).take (b - a)) : inP l x0 y0 x1 y1 i = (decide (y0 ≤ yPl l i) && decide (yPl l i ≤ y1)) := by
  obtain ⟨b', rfl, ⟨ha, ha1, ha2⟩, hb, hb1, hb2⟩ := h
  obtain ⟨u, hu, rfl⟩ := List.mem_iff_getElem.1 hi
  rw [List.length_take, List.length_drop] at hu
  rw [List.getElem_take, List.getElem_drop]
  have h1 : isAb (xOf l r (a + u)) x0 false = true := ha2 (a + u) (by omega) (by omega)
  have h2 : isAb (xOf l r (a + u)) x1 true = false := hb1 (a + u) (by omega)
  unfold isAb xOf at h1 h2
  rw [ge_at r (by omega)] at h1 h2
  unfold inP inR yPl
  simp at h1 h2
  have g1 : x0 ≤ l.getD (r[a + u] * 3) 0 := by rcases h1 with h1 | h1 <;> simp <;> omega
  have g2 : l.getD (r[a + u] * 3) 0 ≤ x1 := by simp; omega
  rw [decide_eq_true g1, decide_eq_true g2]
  simp
theorem cols_le {l : List Int} {n a b : Nat} {r : List Nat} {x0 x1 : Int} (h : ColsAt l r n x0 x1 a b) : a ≤ b ∧ b ≤ n := by obtain ⟨b', rfl, ⟨h1, _⟩, h2, _⟩ := h; omega
/-- How many places lie in a rectangle. -/
def cntIn (l : List Int) (n : Nat) (x0 y0 x1 y1 : Int) : Nat := ((List.range n).filter (inP l x0 y0 x1 y1)).length
theorem cols_cnt {l : List Int} {n a b : Nat} {r : List Nat} {x0 y0 x1 y1 : Int} (hO : OrdXY l n r) (h : ColsAt l r n x0 x1 a b) : ((r.drop a).take (b - a)).countP (inP l x0 y0 x1 y1) = cntIn l n x0 y0 x1 y1 := by
  unfold cntIn
  rw [List.countP_eq_length_filter, cols_filter hO.len h]
  exact (hO.1.filter _).length_eq
theorem not_ab_at (x y : Int) : (!isAb x y true) = decide (x ≤ y) := by unfold isAb; by_cases h : x ≤ y <;> simp [h] <;> omega
theorem not_ab_no (x y : Int) : (!isAb x y false) = decide (x < y) := by
  unfold isAb
  by_cases h : x < y
  · have : ¬ y < x := by omega
    have : ¬ x = y := by omega
    simp [*]
  · by_cases h2 : x = y
    · simp [h2]
    · have : y < x := by omega
      simp [h, this]
theorem count_eq {l : List Int} {n a b : Nat} {r : List Nat} {x0 y0 x1 y1 : Int} (hO : OrdXY l n r) (h : ColsAt l r n x0 x1 a b) :
    max 0 ((belowN l r n a b y1 true : Int) - (belowN l r n a b y0 false : Int)) = (cntIn l n x0 y0 x1 y1 : Int) := by
  obtain ⟨hab, hb⟩ := cols_le h
  rw [belowN_seg hO.len hab hb, belowN_seg hO.len hab hb, ← cols_cnt hO h]
  have hin : ((r.drop a).take (b - a)).countP (inP l x0 y0 x1 y1) = ((r.drop a).take (b - a)).countP fun i => decide (y0 ≤ yPl l i) && decide (yPl l i ≤ y1) := List.countP_congr fun i hi => by rw [cols_in hO.len h hi]
  rw [hin]
  by_cases hy : y0 ≤ y1
  · have := countP_sub (p := fun i => !isAb (yPl l i) y1 true) (q := fun i => !isAb (yPl l i) y0 false) (s := fun i => decide (y0 ≤ yPl l i) && decide (yPl l i ≤ y1)) ((r.drop a).take (b - a)) fun i _ => by
      simp only [not_ab_at, not_ab_no, Bool.and_eq_true, decide_eq_true_eq]; omega
    omega
  · have h0 : ((r.drop a).take (b - a)).countP (fun i => decide (y0 ≤ yPl l i) && decide (yPl l i ≤ y1)) = 0 := by
      rw [List.countP_eq_zero]; intro i _; simp; omega
    have hle : ((r.drop a).take (b - a)).countP (fun i => !isAb (yPl l i) y1 true) ≤ ((r.drop a).take (b - a)).countP (fun i => !isAb (yPl l i) y0 false) := List.countP_mono_left fun i _ hi => by
      simp only [not_ab_at, not_ab_no, decide_eq_true_eq] at hi ⊢; omega
    omega
attribute [irreducible] belowN cntIn
end Go.Dam

/-
  Contract of wave.kth. Conditions: the wave may be, the range lies within it, and the range has a kth number.
-/
namespace Go.Proofs.Ytdmfhpigchbcbaa
open Go Go.RowKit Go.Dam
set_option linter.unusedVariables false
set_option maxRecDepth 100000 in
set_option maxHeartbeats 4000000 in
theorem waveKth_any (v : Value) (rs : List (Int × List Nat)) (n a b k : Nat) (w : World) (B : Nat) (hB : B ≤ w.heap.size) (h : IsWave w B v rs) (hmw : MayWave rs) (hln : lenW rs = n) (hab : a ≤ b) (hbn : b ≤ n) (hk : k < b - a) :
    Calls Try.prog 26 #[v, .int .i64 a, .int .i64 b, .int .i64 k] w fun e w' => e = .returned (.int .i64 ((sW rs n a b).getD k 0)) ∧ Below w.heap.size w w' := by
  obtain ⟨n', hln', hn300, hn0, hm21, hrow⟩ := mayWave_len hmw
  obtain rfl : n = n' := by omega
  obtain ⟨s, rfl, h⟩ := h
  have HI := Lib.hid h
  obtain ⟨A, c, vs, rfl, hc, hm, hl, _, _⟩ := h
  have HA := Lib.hid ((Below.refl w.heap.size w).alloc (Nat.le_refl _) (.cells #[.slice A rs.length c] 34))
  have HEnd : Hid (∀ N a' b' K : Nat, Seg n (rowsW rs) (fun j => decide (a ≤ j ∧ j < b)) rs.length N a' b' → K + ltW n (rowsW rs) (fun j => decide (a ≤ j ∧ j < b)) rs.length N = k → K < b' - a' → (sW rs n a b).getD k 0 = (N : Int)) := Lib.hid fun N a' b' K hs h1 h2 => by
    refine sorted_at _ (sW_sorted rs n a b) k N ?_ ?_
    · rw [sW_lt rs N hab hbn]; omega
    · rw [sW_lt rs N hab hbn, sW_eq rs hab hbn hs]; omega
  have HRow := Lib.hid hrow
  generalize (sW rs n a b).getD k 0 = R at *
  clear hmw hrow hln hln' hn0
  go_enter Try.func26, Try.ntmps26
  go_wp2_with fail
  go_loopw [1, 2, 3, 9, 17] (fun av bv kv nv iv wr => ∃ L a' b' K N : Nat, L ≤ rs.length ∧ iv = .int .i64 L ∧ av = .int .i64 a' ∧ bv = .int .i64 b' ∧ kv = .int .i64 K ∧ nv = .int .i64 N ∧ N < 2 ^ L ∧ Seg n (rowsW rs) (fun q => decide (a ≤ q ∧ q < b)) L N a' b' ∧ K + ltW n (rowsW rs) (fun q => decide (a ≤ q ∧ q < b)) L N = k ∧ K < b' - a' ∧ Below w.heap.size w wr) (fun _ _ _ _ iv _ => rs.length - (intOf iv).toNat)
  case atStart => exact ⟨0, a, b, k, 0, by omega, rfl, rfl, rfl, rfl, rfl, by decide, Seg.start n _ hab hbn, by rw [ltW_0]; rfl, hk, HA.out⟩
  case round =>
    obtain ⟨L, a', b', K, N, hL, rfl, rfl, rfl, rfl, rfl, hN, hseg, hKl, hKb, hbel⟩ := hrel
    have HBe := Lib.hid hbel
    have hz := hbel.size
    have hbn' := hseg.1
    have hab' := hseg.2.1
    have HKl := Lib.hid hKl
    clear hbel hKl
    have hN2 : N < 2097152 := by
      have : 2 ^ L ≤ 2 ^ 21 := Nat.pow_le_pow_right (by decide) (by omega)
      omega
    by_cases hlt : L < rs.length
    · have HSeg := Lib.hid fun one => hseg.down one
      have HLf := Lib.hid (ltW_false n (rowsW rs) (fun j => decide (a ≤ j ∧ j < b)) L N)
      have HLt := Lib.hid (ltW_true hseg)
      have HNp : Hid (2 * N < 2 ^ (L + 1) ∧ 2 * N + 1 < 2 ^ (L + 1)) := Lib.hid (by rw [Nat.pow_succ]; omega)
      obtain ⟨_, bb, off, rfl, hbb, hrows⟩ := rows_at HI.out (by omega)
      obtain ⟨sv, c0, c1, hln64, hws⟩ := hrows L hlt
      obtain ⟨e1, hmk⟩ := HRow.out L hlt
      rw [← rowsW_at] at hws
      rw [e1] at c0 hln64
      generalize (rowsW rs).getD L [] = ws at *
      have hws2 := hws
      obtain ⟨As, cs, rfl, _⟩ := hws2
      have d0 := (HBe.out.cell (p := ⟨bb, off + L * 2, none⟩) (by simp; omega)).trans c0
      have d1 := (HBe.out.cell (p := ⟨bb, off + L * 2 + 1, none⟩) (by simp; omega)).trans c1
      have HDn := Lib.hid fun one p (hp : p ≤ n) W (hW : Below w.heap.size w W) => waveDown_any (.agg #[.int .i64 n, .slice As ws.length cs]) n p ws one W B (Nat.le_trans hB hW.size) ⟨_, rfl, hln64, hws.below (hW.mono hB)⟩ hmk hp
      have hdm := dnW_mono ws n false hab'
      have hdl := dnW_le ws n false hbn'
      have hds := dnW_sum ws n hab'
      clear hrows c0 c1 hws hmk HI hseg hN
      have HBWr := Lib.hid (HBe.out.alloc (by omega) (.cells #[.int .i64 n, .slice As ws.length cs] 73))
      have p0r : (wr.alloc (.cells #[.int .i64 n, .slice As ws.length cs] 73)).cell? ⟨wr.heap.size, 0, none⟩ = some (.int .i64 n) := by simp
      have p1r : (wr.alloc (.cells #[.int .i64 n, .slice As ws.length cs] 73)).cell? ⟨wr.heap.size, 1, none⟩ = some (.slice As ws.length cs) := by simp
      have wr1 : IntKind.i64.wrap (((dnW ws n false b' : Nat) : Int) - ((dnW ws n false a' : Nat) : Int)) = ((dnW ws n false b' : Nat) : Int) - ((dnW ws n false a' : Nat) : Int) := by rw [IntKind.wrap_i64]; omega
      have hKi : ((dnW ws n false b' : Nat) : Int) - ((dnW ws n false a' : Nat) : Int) ≤ (K : Int) ∨ (K : Int) < ((dnW ws n false b' : Nat) : Int) - ((dnW ws n false a' : Nat) : Int) := by omega
      go_wp2_with fail
      have HQx5 := Lib.hid fun d os => (HBWr.out.trans ((below_regrown (wr.alloc (.cells #[.int .i64 n, .slice As ws.length cs] 73)) d os).mono HBWr.out.size))
      have HDx5 := Lib.hid fun one p (hp : p ≤ n) d os => Calls.regrown_of (HDn.out one p hp (Sort.grow (redrawn (wr.alloc (.cells #[.int .i64 n, .slice As ws.length cs] 73)) d) os) (HQx5.out d os))
      have q0 := fun d os => cell_regrown p0r d os
      have q1 := fun d os => cell_regrown p1r d os
      refine wp_region_quiet_below (by kernel_rfl) (by kernel_rfl) ?_
      repeat (quiet_step ((go_at_call 44; exact HDx5.out _ _ (by omega) _ _)))
      refine wpQuiet_nil ?_
      intro _ hw'
      obtain ⟨⟨dq, osq⟩, hw''⟩ := hw'
      subst hw''
      have HBWx5 := Lib.hid (HQx5.out dq osq)
      have HGrx5 := Lib.hid (below_regrown (wr.alloc (.cells #[.int .i64 n, .slice As ws.length cs] 73)) dq osq)
      have p0x5 := cell_regrown p0r dq osq
      have p1x5 := cell_regrown p1r dq osq
      generalize Sort.grow (redrawn (wr.alloc (.cells #[.int .i64 n, .slice As ws.length cs] 73)) dq) osq = wx5 at *
      clear q0 q1 HDx5 HQx5 p0r p1r
      rcases hKi with hge | hge
      · have hlK : ltW n (rowsW rs) (fun q => decide (a ≤ q ∧ q < b)) (L + 1) (2 * N + 1) = ltW n (rowsW rs) (fun q => decide (a ≤ q ∧ q < b)) L N + (dnW ws n false b' - dnW ws n false a') := HLt.out
        have HK2 : Hid ((K - (dnW ws n false b' - dnW ws n false a')) + ltW n (rowsW rs) (fun q => decide (a ≤ q ∧ q < b)) (L + 1) (2 * N + 1) = k) := Lib.hid (by rw [hlK]; have := HKl.out; omega)
        have hKi2 : ((K - (dnW ws n false b' - dnW ws n false a') : Nat) : Int) = (K : Int) - (((dnW ws n false b' : Nat) : Int) - ((dnW ws n false a' : Nat) : Int)) := by omega
        have HKi := Lib.hid hKi2
        have HKb : Hid (K - (dnW ws n false b' - dnW ws n false a') < dnW ws n true b' - dnW ws n true a') := Lib.hid (by omega)
        clear hlK hKi2 hds HLf HLt
        go_wp2_with fail
        have HQx6 := Lib.hid fun d os => (HBWx5.out.trans ((below_regrown wx5 d os).mono HBWx5.out.size))
        have HDx6 := Lib.hid fun one p (hp : p ≤ n) d os => Calls.regrown_of (HDn.out one p hp (Sort.grow (redrawn wx5 d) os) (HQx6.out d os))
        have q0 := fun d os => cell_regrown p0x5 d os
        have q1 := fun d os => cell_regrown p1x5 d os
        refine wp_region_quiet_below (by kernel_rfl) (by kernel_rfl) ?_
        repeat (quiet_step ((go_at_call 44; exact HDx6.out _ _ (by omega) _ _)))
        refine wpQuiet_nil ?_
        intro _ hw'
        obtain ⟨⟨dq, osq⟩, hw''⟩ := hw'
        subst hw''
        have HBWx6 := Lib.hid (HQx6.out dq osq)
        have HGrx6 := Lib.hid (below_regrown wx5 dq osq)
        have p0x6 := cell_regrown p0x5 dq osq
        have p1x6 := cell_regrown p1x5 dq osq
        generalize Sort.grow (redrawn wx5 dq) osq = wx6 at *
        clear q0 q1 HDx6 HQx6 p0x5 p1x5
        go_wp2_with fail
        go_roundw
        case rel => exact ⟨L + 1, _, _, _, 2 * N + 1, by omega, by go_num, rfl, rfl, vint HKi.out.symm, by go_num, HNp.out.2, HSeg.out true, HK2.out, HKb.out, HBWx6.out⟩
        case measure => simp [intOf]; omega
      · have HK2 : Hid (K + ltW n (rowsW rs) (fun q => decide (a ≤ q ∧ q < b)) (L + 1) (2 * N) = k) := Lib.hid (by rw [HLf.out]; exact HKl.out)
        have HKb : Hid (K < dnW ws n false b' - dnW ws n false a') := Lib.hid (by omega)
        have hgd : decide (((dnW ws n false b' : Nat) : Int) - ((dnW ws n false a' : Nat) : Int) ≤ (K : Int)) = false := decide_eq_false (by omega)
        clear hds HLf HLt
        go_wp2_with fail
        have HQx6 := Lib.hid fun d os => (HBWx5.out.trans ((below_regrown wx5 d os).mono HBWx5.out.size))
        have HDx6 := Lib.hid fun one p (hp : p ≤ n) d os => Calls.regrown_of (HDn.out one p hp (Sort.grow (redrawn wx5 d) os) (HQx6.out d os))
        have q0 := fun d os => cell_regrown p0x5 d os
        have q1 := fun d os => cell_regrown p1x5 d os
        refine wp_region_quiet_below (by kernel_rfl) (by kernel_rfl) ?_
        repeat (quiet_step ((go_at_call 44; exact HDx6.out _ _ (by omega) _ _)))
        refine wpQuiet_nil ?_
        intro _ hw'
        obtain ⟨⟨dq, osq⟩, hw''⟩ := hw'
        subst hw''
        have HBWx6 := Lib.hid (HQx6.out dq osq)
        have HGrx6 := Lib.hid (below_regrown wx5 dq osq)
        have p0x6 := cell_regrown p0x5 dq osq
        have p1x6 := cell_regrown p1x5 dq osq
        generalize Sort.grow (redrawn wx5 dq) osq = wx6 at *
        clear q0 q1 HDx6 HQx6 p0x5 p1x5
        go_wp2_with fail
        go_roundw
        case rel => exact ⟨L + 1, _, _, K, 2 * N, by omega, by go_num, rfl, rfl, rfl, by go_num, HNp.out.1, HSeg.out false, HK2.out, HKb.out, HBWx6.out⟩
        case measure => simp [intOf]; omega
    · obtain rfl : L = rs.length := by omega
      have HE := Lib.hid (HEnd.out N a' b' K hseg HKl.out hKb)
      clear hseg
      go_wp2_with fail
      go_ret
      exact ⟨by rw [HE.out]; rfl, HBe.out⟩
end Go.Proofs.Ytdmfhpigchbcbaa
