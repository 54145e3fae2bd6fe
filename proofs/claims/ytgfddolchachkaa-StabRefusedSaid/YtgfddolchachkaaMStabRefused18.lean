/-
  Contracts of stab.low, stab.high, stab.places and its comparing function: the places of the spans, sorted by a number of each. Conditions: the spans can be read as data; they are at most 100.
-/
import Derived.Test.YtgfddolchachkaaMStabRefused16
import Derived.Test.YtgfddolchachkaaMStabRefused00
import Derived.Test.YtgfddolchachkaaMStabRefused17
import Derived.Deep.RegionHeld3
namespace Go.Dam
open Go Go.RowKit Go.Sort
/-- All places below n. -/
def idS (n : Nat) : List Int := (List.range n).map fun i : Nat => (i : Int)
theorem idS_0 : idS 0 = [] := rfl
theorem idS_succ (n : Nat) : idS (n + 1) = idS n ++ [(n : Int)] := by unfold idS; rw [List.range_succ, List.map_append]; rfl
theorem idS_mem {n : Nat} {z : Int} (h : z ∈ idS n) : ∃ i : Nat, z = i ∧ i < n := by
  unfold idS at h
  obtain ⟨i, hi, rfl⟩ := List.mem_map.1 h
  exact ⟨i, rfl, List.mem_range.1 hi⟩
/-- A number that is a place below n. -/
def OkS (n : Nat) (z : Int) : Prop := ∃ i : Nat, z = i ∧ i < n
/-- Places as numbers. -/
def natS (r : List Nat) : List Int := r.map fun i : Nat => (i : Int)
theorem natS_len (r : List Nat) : (natS r).length = r.length := by unfold natS; simp
theorem natS_at (rn : List Nat) (u : Nat) : (natS rn).getD u 0 = ((rn.getD u 0 : Nat) : Int) := by
  unfold natS
  rw [List.getD_eq_getElem?_getD, List.getElem?_map, List.getD_eq_getElem?_getD]
  cases rn[u]? <;> rfl
theorem natS_of {n : Nat} {r : List Int} (h : r.Perm (idS n)) : ∃ rn : List Nat, rn.Perm (List.range n) ∧ r = natS rn := by
  refine ⟨r.map Int.toNat, ?_, ?_⟩
  · have h1 := h.map Int.toNat
    have h2 : (idS n).map Int.toNat = List.range n := by
      unfold idS; rw [List.map_map]
      conv => rhs; rw [← List.map_id (List.range n)]
      exact List.map_congr_left fun i _ => rfl
    rwa [h2] at h1
  · unfold natS
    rw [List.map_map]
    conv => lhs; rw [← List.map_id r]
    refine List.map_congr_left fun z hz => ?_
    obtain ⟨i, rfl, _⟩ := idS_mem (h.mem_iff.1 hz)
    rfl
theorem compS_lt (x y : Int) : (decide (Lib.compareInt x y < 0)) = decide (x < y) := by
  unfold Lib.compareInt
  by_cases h1 : x < y
  · simp [h1]
  · by_cases h2 : y < x <;> simp [h1, h2]
theorem swoS {α : Type} (k : α → Int) : SWO (fun x y : α => decide (Lib.compareInt (k x) (k y) < 0)) where
  irrefl x := by rw [compS_lt]; simp
  trans x y z h1 h2 := by rw [compS_lt] at *; simp at *; omega
  ntrans x y z h1 h2 := by rw [compS_lt] at *; simp at *; omega
end Go.Dam
namespace Go.Proofs.Ytgfddolchachkaa
open Go Go.RowKit Go.Dam Go.Shelf
set_option linter.unusedVariables false
theorem keptS_grow {w : World} {p : Addr} {v : Value} {k : Nat} {os : Array Obj} (h : w.cell? p = some v) : (Sort.grow (w.drewN k) os).cell? p = some v := (Sort.cell?_grow (w.drewN k) os p (cell_lt h)).trans h
theorem stabLow_any (x y : Int) (w : World) : Calls Try.prog 56 #[.agg #[.int .i64 x, .int .i64 y]] w fun e w' => e = .returned (.int .i64 x) ∧ ∃ q os, w' = Sort.grow (w.drewN q) os := by
  go_enter Try.func56, Try.ntmps56
  go_wp2_with fail
  go_ret
  exact ⟨rfl, 0, _, by rw [Sort.alloc_eq_grow]; rfl⟩
theorem stabHigh_any (x y : Int) (w : World) : Calls Try.prog 55 #[.agg #[.int .i64 x, .int .i64 y]] w fun e w' => e = .returned (.int .i64 y) ∧ ∃ q os, w' = Sort.grow (w.drewN q) os := by
  go_enter Try.func55, Try.ntmps55
  go_wp2_with fail
  go_ret
  exact ⟨rfl, 0, _, by rw [Sort.alloc_eq_grow]; rfl⟩
/-- A function that hands back a number of a span. -/
def KeyFn (bf : Nat) (kf : Int → Int → Int) : Prop :=
  (∀ args w, (callFunc bf args).run Try.prog w = .ok (.enter bf args) w) ∧ ∀ x y w, Calls Try.prog bf #[.agg #[.int .i64 x, .int .i64 y]] w fun e w' => e = .returned (.int .i64 (kf x y)) ∧ ∃ q os, w' = Sort.grow (w.drewN q) os
theorem keyLow : KeyFn 56 (fun x _ => x) := ⟨enters_of Try.func56 (by kernel_rfl) rfl, stabLow_any⟩
theorem keyHigh : KeyFn 55 (fun _ y => y) := ⟨enters_of Try.func55 (by kernel_rfl) rfl, stabHigh_any⟩
theorem cmpS_any (x y : Int) (w : World) : Calls Try.prog 109 #[.int .i64 x, .int .i64 y] w fun e w' => e = .returned (.int .i64 (Lib.compareInt x y)) ∧ w = w' := by
  have h := AnyG.cmp_Compare_int Try.cmpInt x y w
  change Calls Try.prog 109 _ _ _ at h
  exact h.mono fun _ _ ⟨he, hw⟩ => ⟨he, hw.symm⟩
theorem grow2 (w : World) (a b : Nat) (os os2 : Array Obj) : Sort.grow ((Sort.grow (w.drewN a) os).drewN b) os2 = Sort.grow (w.drewN (a + b)) (os ++ os2) := by
  show Sort.grow (Sort.grow ((w.drewN a).drewN b) os) os2 = _
  rw [Sort.grow_grow, World.drewN_drewN]
set_option maxHeartbeats 4000000 in
theorem stabCmp_any (bf : Nat) (kf : Int → Int → Int) (hk : KeyFn bf kf) (n c bk off k0 k1 i j : Nat) (x0 y0 x1 y1 : Int) (w : World) (hi : i < n) (hj : j < n) (hn : n ≤ 100)
    (b0 : w.cell? ⟨k0, 0, none⟩ = some (.func (.func bf) #[] #[])) (b1 : w.cell? ⟨k1, 0, none⟩ = some (.slice (some ⟨bk, off, none⟩) n c))
    (c0 : w.cell? ⟨bk, off + i * 2, none⟩ = some (.int .i64 x0)) (c1 : w.cell? ⟨bk, off + i * 2 + 1, none⟩ = some (.int .i64 y0)) (d0 : w.cell? ⟨bk, off + j * 2, none⟩ = some (.int .i64 x1)) (d1 : w.cell? ⟨bk, off + j * 2 + 1, none⟩ = some (.int .i64 y1)) :
    Calls Try.prog 108 #[.int .i64 i, .int .i64 j, .pointer (some ⟨k0, 0, none⟩), .pointer (some ⟨k1, 0, none⟩)] w fun e w' => e = .returned (.int .i64 (Lib.compareInt (kf x0 y0) (kf x1 y1))) ∧ ∃ q os, w' = Sort.grow (w.drewN q) os := by
  have i1 : (i : Int) < (n : Int) := by omega
  have j1 : (j : Int) < (n : Int) := by omega
  obtain ⟨eb, hb⟩ := hk
  have HL := Lib.hid hb
  have HC := Lib.hid cmpS_any
  go_enter Try.func108, Try.ntmps108
  go_wp2_with fail
  go_region_held3 (fun w' => w'.cell? ⟨k0, 0, none⟩ = some (.func (.func bf) #[] #[]) ∧ w'.cell? ⟨k1, 0, none⟩ = some (.slice (some ⟨bk, off, none⟩) n c) ∧ w'.cell? ⟨bk, off + i * 2, none⟩ = some (.int .i64 x0) ∧ w'.cell? ⟨bk, off + i * 2 + 1, none⟩ = some (.int .i64 y0) ∧ w'.cell? ⟨bk, off + j * 2, none⟩ = some (.int .i64 x1) ∧ w'.cell? ⟨bk, off + j * 2 + 1, none⟩ = some (.int .i64 y1))
    (first
      | exact ⟨b0, b1, c0, c1, d0, d1⟩
      | exact ⟨keptS_grow b0, keptS_grow b1, keptS_grow c0, keptS_grow c1, keptS_grow d0, keptS_grow d1⟩
      | exact ⟨keptS_grow (keptS_grow b0), keptS_grow (keptS_grow b1), keptS_grow (keptS_grow c0), keptS_grow (keptS_grow c1), keptS_grow (keptS_grow d0), keptS_grow (keptS_grow d1)⟩)
    (first
      | (go_at_fn bf; refine (HL.out _ _ _).mono ?_; rintro e w' ⟨rfl, q, os, rfl⟩)
      | (go_at_call 109; refine (HC.out _ _ _).mono ?_; rintro e w' ⟨rfl, rfl⟩))
  all_goals go_wp2_with fail
  all_goals go_ret
  all_goals exact ⟨rfl, _, _, grow2 _ _ _ _ _⟩
theorem ownS_base {w : World} {b b' : Nat} {e : TypeId} {size n : Nat} {v : Value} {xs : List Value} (h : w.ownsRow b e size v n xs) (hb : b' ≤ b) : w.ownsRow b' e size v n xs := by
  refine ⟨h.1, ?_⟩
  rcases h.2 with hn | ⟨g, cap, cur, hv, h1, h2⟩
  · exact .inl hn
  · exact .inr ⟨g, cap, cur, hv, by omega, h2⟩
set_option maxHeartbeats 4000000 in
theorem stabPlaces_any (bf : Nat) (kf : Int → Int → Int) (hk : KeyFn bf kf) (v : Value) (n : Nat) (l : List Int) (w : World) (B : Nat) (hB : B ≤ w.heap.size) (h : IsFlat 2 w B v n l) (hn100 : n ≤ 100) :
    Calls Try.prog 54 #[v, .func (.func bf) #[] #[]] w fun e w' => ∃ v' rn, e = .returned v' ∧ ByK (fun i => kf (l.getD (i * 2) 0) (l.getD (i * 2 + 1) 0)) n rn ∧ w'.ownsRow w.heap.size 3 1 v' n ((natS rn).map (Value.int .i64)) ∧ Below w.heap.size w w' := by
  obtain ⟨A, c, rfl, hc, hm, hn, hl, hr, hw⟩ := h
  have e2 : Below w.heap.size w ((w.alloc (.cells #[.slice A n c] 38)).alloc (.cells #[.func (.func bf) #[] #[]] 89)) := ((Below.refl _ _).alloc (Nat.le_refl _) _).alloc (by simp) _
  have E2 := Lib.hid e2
  have HR := Lib.hid hr
  have HK := Lib.hid hk
  have HLn := Lib.hid hl
  clear hr hl hw e2 hk
  go_enter Try.func54, Try.ntmps54
  go_wp2
  have p0 : ((w.alloc (.cells #[.slice A n c] 38)).alloc (.cells #[.func (.func bf) #[] #[]] 89)).cell? ⟨w.heap.size, 0, none⟩ = some (.slice A n c) := by simp
  have p1 : ((w.alloc (.cells #[.slice A n c] 38)).alloc (.cells #[.func (.func bf) #[] #[]] 89)).cell? ⟨w.heap.size + 1, 0, none⟩ = some (.func (.func bf) #[] #[]) := by simp
  have hz1 : ((w.alloc (.cells #[.slice A n c] 38)).alloc (.cells #[.func (.func bf) #[] #[]] 89)).heap.size = w.heap.size + 2 := by simp
  generalize (w.alloc (.cells #[.slice A n c] 38)).alloc (.cells #[.func (.func bf) #[] #[]] 89) = w1 at *
  go_loopw [5, 6, 9] (fun lv _ iv wr => ∃ i : Nat, i ≤ n ∧ iv = .int .i64 i ∧ Hid (wr.ownsRow w1.heap.size 3 1 lv i ((idS i).map (Value.int .i64))) ∧ Hid (Below w1.heap.size w1 wr)) (fun _ _ iv _ => n - (intOf iv).toNat)
  case atStart => exact ⟨0, by omega, rfl, Lib.hid (World.ownsRow_nil _ _ _ _), Lib.hid (Below.refl _ _)⟩
  case round =>
    obtain ⟨i, hi, rfl, HO, HB⟩ := hrel
    have hz := HB.out.size
    have q0 := (HB.out.cell (p := ⟨w.heap.size, 0, none⟩) (by show w.heap.size < _; omega)).trans p0
    have q1 := (HB.out.cell (p := ⟨w.heap.size + 1, 0, none⟩) (by show w.heap.size + 1 < _; omega)).trans p1
    obtain ⟨A2, c2, rfl⟩ := own_shape HO.out
    by_cases hlt : i < n
    · have t1 : decide ((i : Int) < (n : Int)) = true := decide_eq_true (by omega)
      go_wp2_with (at_builtin; refine wpList_pushD el_int rfl (.tmp 12) (.tmp 14) rfl w1.heap.size _ i _ (HO.out.alloc _) rfl wr.heap.size 1 _ rfl (new_cell rfl) rfl (by omega) (by omega) (by simp; omega) ?_; intro v2 w2 hown2 hg2 hl2)
      go_roundw
      case rel => exact ⟨i + 1, by omega, by go_num, Lib.hid (by rw [idS_succ, List.map_append]; exact hown2), Lib.hid (below_push (HB.out.alloc hz _) (HO.out.alloc _) (Nat.le_refl _) (by simp; omega) hg2)⟩
      case measure => simp [intOf]; omega
    · obtain rfl : n = i := by omega
      have HSort := Lib.hid (sortStableFunc_own HO.out (by omega) (OkS n) (fun z hz => idS_mem hz) (fun x y => Lib.compareInt (kf (l.getD (x.toNat * 2) 0) (l.getD (x.toNat * 2 + 1) 0)) (kf (l.getD (y.toNat * 2) 0) (l.getD (y.toNat * 2 + 1) 0))) (swoS fun x : OkF (OkS n) => kf (l.getD (x.1.toNat * 2) 0) (l.getD (x.1.toNat * 2 + 1) 0)) 108 #[.pointer (some ⟨w.heap.size + 1, 0, none⟩), .pointer (some ⟨w.heap.size, 0, none⟩)]
        (enters_of Try.func108 (by kernel_rfl) rfl) (fun W l' _ _ _ hg x y hx hy => by
          obtain ⟨a1, rfl, ha1⟩ := hx
          obtain ⟨b1, rfl, hb1⟩ := hy
          obtain ⟨g2, cap2, hv2, hbase2, hg2lt⟩ := HO.out.form (by omega)
          injection hv2 with hA2 _ hc2
          subst hA2 hc2
          obtain ⟨bk, off, rfl, hbk, hcells⟩ := flat_cells HR.out HLn.out (by omega) (by omega)
          have hE := E2.out
          have hne : ∀ k, k < w1.heap.size → some k ≠ (Value.slice (some ⟨g2, 0, none⟩) n c2).ownBlock := fun k hk e => by simp only [Value.ownBlock, Option.some.injEq] at e; omega
          have cell : ∀ p : Addr, p.block < w1.heap.size → W.cell? p = w1.cell? p := fun p hp => (hg.cell_far p (by omega) (hne _ hp)).trans (HB.out.cell hp)
          have cl : ∀ j, j < n * 2 → W.cell? ⟨bk, off + j, none⟩ = some (.int .i64 (l.getD j 0)) := fun j hj => (cell ⟨bk, off + j, none⟩ (by show bk < _; omega)).trans ((hE.cell (p := ⟨bk, off + j, none⟩) (by show bk < _; omega)).trans (hcells j hj))
          exact stabCmp_any bf kf HK.out n c bk off (w.heap.size + 1) w.heap.size a1 b1 _ _ _ _ W ha1 hb1 hn100 ((cell ⟨w.heap.size + 1, 0, none⟩ (by show w.heap.size + 1 < _; omega)).trans p1) ((cell ⟨w.heap.size, 0, none⟩ (by show w.heap.size < _; omega)).trans p0) (cl (a1 * 2) (by omega)) (cl (a1 * 2 + 1) (by omega)) (cl (b1 * 2) (by omega)) (cl (b1 * 2 + 1) (by omega))))
      go_wp2_with (go_at_call 107; refine (HSort.out).mono ?_; rintro e w5 ⟨rfl, r, hperm, hsorted, hown5, hg5⟩)
      go_ret
      obtain ⟨rn, hrn, rfl⟩ := natS_of hperm
      have hlen : rn.length = n := by have := hrn.length_eq; simpa using this
      refine ⟨_, rn, rfl, ⟨hrn, fun u v huv hv => ?_⟩, ?_, ?_⟩
      · have h1 := hsorted u v huv (by rw [natS_len, hlen]; exact hv)
        rw [natS_at, natS_at] at h1
        simp only [Int.toNat_natCast] at h1
        have h2 := compS_lt (kf (l.getD (rn.getD v 0 * 2) 0) (l.getD (rn.getD v 0 * 2 + 1) 0)) (kf (l.getD (rn.getD u 0 * 2) 0) (l.getD (rn.getD u 0 * 2 + 1) 0))
        rw [decide_eq_false h1] at h2
        have := of_decide_eq_false h2.symm
        show kf _ _ ≤ kf _ _
        omega
      · exact ownS_base hown5 (by omega)
      · have hb := E2.out.trans (HB.out.mono E2.out.size)
        exact hb.grown hg5 hb.size (fun k e => by have := (HO.out.lt k e).1; omega)
end Go.Proofs.Ytgfddolchachkaa
