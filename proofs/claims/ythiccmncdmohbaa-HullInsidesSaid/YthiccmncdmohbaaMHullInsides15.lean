/-
  Contract of slices.CompactFunc at a row of ints of the call's own: of each run of equals the first one stays. Conditions: the function that is handed over tells whether two numbers of the row are equal; it may draw.
-/
import Derived.Test.YthiccmncdmohbaaMHullInsides08
import Derived.Test.YthiccmncdmohbaaMHullInsides14
import Derived.Lib.SliceRun
import Derived.Shelf.RegionOpenPlain
set_option linter.unusedVariables false
set_option linter.unusedSimpArgs false
namespace Go.Dam
open Go Go.RowKit
/-- Does the place stay: the first, or one that differs from the one ahead of it? -/
def stays (q : Int → Int → Bool) (zs : List Int) (j : Nat) : Bool := decide (j = 0) || !q (zs.getD j 0) (zs.getD (j - 1) 0)
/-- Of the first m those that stay. -/
def compL (q : Int → Int → Bool) (zs : List Int) : Nat → List Int
  | 0 => []
  | m + 1 => if stays q zs m = true then compL q zs m ++ [zs.getD m 0] else compL q zs m
theorem compL_len (q : Int → Int → Bool) (zs : List Int) : ∀ m, (compL q zs m).length ≤ m
  | 0 => Nat.le_refl _
  | m + 1 => by
    have := compL_len q zs m
    rw [compL]
    split
    · simp; omega
    · omega
theorem compL_yes {q : Int → Int → Bool} {zs : List Int} {m : Nat} (h : stays q zs m = true) : compL q zs (m + 1) = compL q zs m ++ [zs.getD m 0] := by rw [compL, if_pos h]
theorem compL_no {q : Int → Int → Bool} {zs : List Int} {m : Nat} (h : stays q zs m = false) : compL q zs (m + 1) = compL q zs m := by rw [compL, if_neg (by simp [h])]
theorem compL_all {q : Int → Int → Bool} {zs : List Int} : ∀ m, m ≤ zs.length → (∀ j, j < m → stays q zs j = true) → compL q zs m = zs.take m
  | 0, _, _ => by simp [compL]
  | m + 1, h, hs => by
    rw [compL_yes (hs m (by omega)), compL_all m (by omega) fun j hj => hs j (by omega), List.take_add_one, List.getD_eq_getElem?_getD, List.getElem?_eq_getElem (by omega)]
    simp
theorem stays_0 (q : Int → Int → Bool) (zs : List Int) : stays q zs 0 = true := rfl
theorem stays_s (q : Int → Int → Bool) (zs : List Int) (j : Nat) : stays q zs (j + 1) = !q (zs.getD (j + 1) 0) (zs.getD j 0) := by simp [stays]
attribute [irreducible] compL stays
/-- How far the moving has come: the first m are done, kk of them stay. -/
def CompTo (q : Int → Int → Bool) (zs ys : List Int) (m kk : Nat) : Prop := ys.length = zs.length ∧ kk = (compL q zs m).length ∧ kk + 1 ≤ m ∧ ys.take kk = compL q zs m ∧ ∀ j, m ≤ j + 1 → ys.getD j 0 = zs.getD j 0
theorem CompTo.start {q : Int → Int → Bool} {zs : List Int} {k : Nat} (h : ∀ j, j < k → stays q zs j = true) (hk : k < zs.length) (hn : stays q zs k = false) : CompTo q zs zs (k + 1) k := by
  have e := compL_no hn
  rw [compL_all k (by omega) h] at e
  exact ⟨rfl, by rw [e]; simp; omega, by omega, e.symm, fun _ _ => rfl⟩
theorem CompTo.skip {q : Int → Int → Bool} {zs ys : List Int} {m kk : Nat} (h : CompTo q zs ys m kk) (hn : stays q zs m = false) : CompTo q zs ys (m + 1) kk := by
  obtain ⟨h1, h2, h3, h4, h5⟩ := h
  exact ⟨h1, by rw [compL_no hn]; exact h2, by omega, by rw [compL_no hn]; exact h4, fun j hj => h5 j (by omega)⟩
theorem CompTo.keep {q : Int → Int → Bool} {zs ys : List Int} {m kk : Nat} (h : CompTo q zs ys m kk) (hm : m < zs.length) (hy : stays q zs m = true) : CompTo q zs (ys.set kk (zs.getD m 0)) (m + 1) (kk + 1) := by
  obtain ⟨h1, h2, h3, h4, h5⟩ := h
  refine ⟨by rw [List.length_set]; exact h1, by rw [compL_yes hy, List.length_append, ← h2]; rfl, by omega, ?_, fun j hj => ?_⟩
  · rw [compL_yes hy, ← h4, List.take_add_one, List.take_set_of_le (by omega), List.getElem?_set_self (by omega)]
    rfl
  · rw [← h5 j (by omega), List.getD_eq_getElem?_getD, List.getElem?_set_ne (by omega), List.getD_eq_getElem?_getD]
theorem own_sets {base g n cap : Nat} {e : TypeId} {z : Value} : ∀ (k o : Nat) (w : World) (xs : List Value), o + k ≤ n → w.ownsRow base e 1 (.slice (some ⟨g, 0, none⟩) n cap) n xs →
    ∃ ys, ys.take o = xs.take o ∧ (w.setCells g o (List.replicate k z)).ownsRow base e 1 (.slice (some ⟨g, 0, none⟩) n cap) n ys
  | 0, o, w, xs, _, h => ⟨xs, rfl, h⟩
  | k + 1, o, w, xs, hk, h => by
    obtain ⟨ys, h1, h2⟩ := own_sets k (o + 1) _ _ (by omega) (own_set h (show o < n by omega) z)
    refine ⟨ys, ?_, h2⟩
    have := congrArg (List.take o) h1
    rw [List.take_take, List.take_take, List.take_set_of_le (by omega)] at this
    rwa [show min o (o + 1) = o from by omega] at this
theorem own_cut {w : World} {base g n cap m : Nat} {e : TypeId} {xs : List Value} (h : w.ownsRow base e 1 (.slice (some ⟨g, 0, none⟩) n cap) n xs) (hm : m ≤ n) : w.ownsRow base e 1 (.slice (some ⟨g, 0, none⟩) m cap) m (xs.take m) := by
  have hl := h.1
  refine ⟨by rw [List.length_take]; omega, ?_⟩
  rcases h.2 with ⟨hx, _⟩ | ⟨g1, cap1, cur, hv, hb, hg, k1, k2, k3, k4⟩
  · cases hx
  injection hv with a1 a2 a3
  subst a3
  refine .inr ⟨g1, cap, cur, by rw [a1], hb, hg, by omega, k2, k3, ?_⟩
  rw [← k4, List.take_take]
  congr 1
  omega
theorem grown_set {w wr : World} {g : Nat} (h : w.grownBy wr (some g)) (i : Nat) (u : Value) : w.grownBy (wr.setCell ⟨g, i, none⟩ u) (some g) :=
  ⟨h.os, h.tape, h.output, by simpa using h.size, fun k hk hne => (Below.heap_setCell wr ⟨g, i, none⟩ u k (fun e => hne (by rw [e]))).trans (h.block k hk hne)⟩
theorem grown_drewN {w wr : World} {row : Option Nat} (h : w.grownBy wr row) (q : Nat) : w.grownBy (wr.drewN q) row := ⟨h.os, h.tape, h.output, h.size, h.block⟩
theorem grown_sets {w : World} {g : Nat} {z : Value} : ∀ (k o : Nat) (wr : World), w.grownBy wr (some g) → w.grownBy (wr.setCells g o (List.replicate k z)) (some g)
  | 0, _, _, h => h
  | k + 1, o, wr, h => grown_sets k (o + 1) _ (grown_set h o z)
end Go.Dam
namespace Go.Proofs.Ythiccmncdmohbaa
open Go Go.RowKit Go.Dam Go.Shelf
set_option linter.unusedVariables false
/-- What is asked of the function handed over: wherever the row holds some list of numbers that may stand in it, and all else is as it was, it tells whether two numbers are equal. -/
def EqAt (ok : Int → Prop) (g : Nat) (lb : Array Value) (q : Int → Int → Bool) (base n : Nat) (v : Value) (w : World) : Prop :=
  ∀ (W : World) (l' : List Int), l'.length = n → (∀ z ∈ l', ok z) → W.ownsRow base 3 1 v n (l'.map (Value.int .i64)) → w.grownBy W v.ownBlock → ∀ x y : Int, ok x → ok y →
    Calls Try.prog g (#[.int .i64 x, .int .i64 y] ++ lb) W fun e w' => e = .returned (.bool (q x y)) ∧ ∃ k, w' = W.drewN k
theorem own_at {w : World} {base g n c : Nat} {l : List Int} (h : w.ownsRow base 3 1 (.slice (some ⟨g, 0, none⟩) n c) n (l.map (Value.int .i64))) (hl : l.length = n) {i : Nat} (hi : i < n) : w.cell? ⟨g, i, none⟩ = some (.int .i64 (l.getD i 0)) := by
  rw [h.cellAt i (by omega), List.getElem?_map, List.getD_eq_getElem?_getD, List.getElem?_eq_getElem (by omega)]; rfl
theorem mem_at {ok : Int → Prop} {l : List Int} (h : ∀ z ∈ l, ok z) {i : Nat} (hi : i < l.length) : ok (l.getD i 0) := by
  rw [List.getD_eq_getElem?_getD, List.getElem?_eq_getElem hi]; exact h _ (List.getElem_mem hi)
set_option maxRecDepth 100000 in
set_option maxHeartbeats 8000000 in
theorem compactFunc_own {w : World} {base n c : Nat} {A : Option Addr} {l : List Int} (h : w.ownsRow base 3 1 (.slice A n c) n (l.map (Value.int .i64))) (hn : n ≤ 1000000) (ok : Int → Prop) (hok : ∀ z ∈ l, ok z) (q : Int → Int → Bool) (g : Nat) (lb : Array Value)
    (eg : ∀ args w, (callFunc g args).run Try.prog w = .ok (.enter g args) w) (hq : EqAt ok g lb q base n (.slice A n c) w) :
    Calls Try.prog 51 #[.slice A n c, .func (.func g) #[] lb] w fun e w' => ∃ m, e = .returned (.slice A m c) ∧ (compL q l n).length = m ∧ w'.ownsRow base 3 1 (.slice A m c) m ((compL q l n).map (Value.int .i64)) ∧ w.grownBy w' (Value.slice A n c).ownBlock := by
  have mixed : Try.prog.follows Departure.mixedOrders = true := by kernel_rfl
  have hl : l.length = n := by have := h.1; simpa using this
  have HO := Lib.hid h
  have HQ := Lib.hid hq
  have HOk := Lib.hid hok
  have hcn := own_cap h
  have HAll : Hid ((∀ j, j < n → stays q l j = true) → (compL q l n) = l) := Lib.hid fun ha => by rw [compL_all n (by omega) ha, List.take_of_length_le (by omega)]
  clear h hq hok
  by_cases h2 : n < 2
  · have HS : Hid (compL q l n = l) := Lib.hid (HAll.out fun j hj => by
      rcases (show j = 0 ∨ j = 0 + 1 from by omega) with rfl | rfl
      · exact stays_0 q l
      · omega)
    have t1 : decide ((n : Int) < 2) = true := decide_eq_true (by omega)
    go_enter Try.func51, Try.ntmps51
    go_wp2
    go_ret
    exact ⟨n, rfl, by rw [HS.out]; exact hl, by rw [HS.out]; exact HO.out, ⟨rfl, rfl, rfl, Nat.le_refl _, fun _ _ _ => rfl⟩⟩
  · have t1 : decide ((n : Int) < 2) = false := decide_eq_false (by omega)
    obtain ⟨gb, cb, hv, hb, hlt0⟩ := HO.out.form (by omega)
    injection hv with hA _ hc
    subst hA hc
    go_enter Try.func51, Try.ntmps51
    go_wp2
    go_loopw [5] (fun kv wr => ∃ k q1 : Nat, 1 ≤ k ∧ k ≤ n ∧ kv = .int .i64 k ∧ wr = w.drewN q1 ∧ Hid (∀ j, j < k → stays q l j = true)) (fun kv _ => n - (intOf kv).toNat)
    case atStart => exact ⟨1, 0, by omega, by omega, rfl, rfl, Lib.hid fun j hj => by rw [show j = 0 from by omega]; exact stays_0 q l⟩
    case round =>
      obtain ⟨k, q1, hk1, hk, rfl, rfl, HSt⟩ := hrel
      by_cases hlt : k < n
      · obtain ⟨k0, rfl⟩ : ∃ k0, k = k0 + 1 := ⟨k - 1, by omega⟩
        have c1 : (w.drewN q1).cell? ⟨gb, k0 + 1, none⟩ = some (.int .i64 (l.getD (k0 + 1) 0)) := own_at HO.out hl hlt
        have c0 : (w.drewN q1).cell? ⟨gb, k0, none⟩ = some (.int .i64 (l.getD k0 0)) := own_at HO.out hl (show k0 < n by omega)
        have hf := HQ.out
        have HE : Hid (∀ q2, Calls Try.prog g (#[.int .i64 (l.getD (k0 + 1) 0), .int .i64 (l.getD k0 0)] ++ lb) ((w.drewN q1).drewN q2) fun e w' => e = .returned (.bool (q (l.getD (k0 + 1) 0) (l.getD k0 0))) ∧ ∃ z, w' = (w.drewN q1).drewN z) := Lib.hid fun q2 =>
          (HQ.out ((w.drewN q1).drewN q2) l hl HOk.out HO.out ⟨rfl, rfl, rfl, Nat.le_refl _, fun _ _ _ => rfl⟩ (l.getD (k0 + 1) 0) (l.getD k0 0) (mem_at HOk.out (by omega)) (mem_at HOk.out (by omega))).mono fun e w' hh => ⟨hh.1, by obtain ⟨z, hz⟩ := hh.2; exact ⟨q2 + z, by rw [hz, World.drewN_drewN]⟩⟩
        have HS := Lib.hid (stays_s q l k0)
        generalize l.getD (k0 + 1) 0 = x at c1 HE HS
        generalize l.getD k0 0 = y at c0 HE HS
        clear hf
        have HWq : Hid (∃ z, w.drewN q1 = w.drewN z) := Lib.hid ⟨q1, rfl⟩
        generalize w.drewN q1 = wq at *
        have e0 : ((k0 : Int) + 1).toNat = k0 + 1 := by omega
        have p0 : (0 : Int) ≤ (k0 : Int) + 1 := by omega
        have p1 : (k0 : Int) + 1 < (n : Int) := by omega
        have p2 : (k0 : Int) < (n : Int) := by omega
        have e1 : (k0 : Int) + 1 - 1 = (k0 : Int) := by omega
        have e2 : IntKind.i64.wrap (k0 : Int) = (k0 : Int) := by rw [IntKind.wrap_i64]; omega
        cases hxy : q x y with
        | true =>
          rw [hxy] at HE HS
          go_wp2_with fail
          go_quiet ((go_at_fn g; exact HE.out _))
          clear e0 e1 e2 p0 p1 p2 c0 c1 HE
          have HW1 : Hid (w.grownBy (wq.drewN nq) (some gb) ∧ (wq.drewN nq).ownsRow base 3 1 (.slice (some ⟨gb, 0, none⟩) n c) n (l.map (Value.int .i64))) := Lib.hid (by
            obtain ⟨z, hz⟩ := HWq.out
            rw [hz]
            exact ⟨⟨rfl, rfl, rfl, Nat.le_refl _, fun _ _ _ => rfl⟩, HO.out⟩)
          go_wp2
          clear HO HWq
          generalize wq.drewN nq = w1 at *
          go_loopw [5, 7] (fun kv k2v wr => ∃ (kk k3 : Nat) (ys : List Int), kv = .int .i64 kk ∧ k2v = .int .i64 ((k3 : Int) + 1) ∧ k0 + 1 + (k3 + 1) ≤ n ∧ kk < n ∧ Hid (CompTo q l ys (k0 + 1 + (k3 + 1)) kk ∧ w.grownBy wr (some gb) ∧ wr.ownsRow base 3 1 (.slice (some ⟨gb, 0, none⟩) n c) n (ys.map (Value.int .i64)) ∧ ∀ z ∈ ys, ok z)) (fun _ k2v _ => n - (intOf k2v).toNat)
          case atStart => exact ⟨k0 + 1, 0, l, rfl, rfl, by omega, by omega, Lib.hid ⟨CompTo.start HSt.out (by omega) HS.out, HW1.out.1, HW1.out.2, HOk.out⟩⟩
          case round =>
            obtain ⟨kk, k3, ys, rfl, rfl, hk3, hkk, HC⟩ := hrel
            by_cases hlt2 : k0 + 1 + (k3 + 1) < n
            · have hys : ys.length = n := by rw [HC.out.1.1]; exact hl
              have d1 := own_at HC.out.2.2.1 hys hlt2
              have d0 := own_at HC.out.2.2.1 hys (show k0 + 1 + k3 < n by omega)
              obtain ⟨ud, d2⟩ : ∃ u, wr.cell? ⟨gb, kk, none⟩ = some u := ⟨_, own_at HC.out.2.2.1 hys hkk⟩
              have f2 := (own_cell0 HC.out.2.2.1 hkk).2
              rw [HC.out.1.2.2.2.2 _ (by omega)] at d1 d0
              have HE : Hid (∀ q2, Calls Try.prog g (#[.int .i64 (l.getD (k0 + 1 + (k3 + 1)) 0), .int .i64 (l.getD (k0 + 1 + k3) 0)] ++ lb) (wr.drewN q2) fun e w' => e = .returned (.bool (q (l.getD (k0 + 1 + (k3 + 1)) 0) (l.getD (k0 + 1 + k3) 0))) ∧ ∃ z, w' = wr.drewN z) := Lib.hid fun q2 =>
                (HQ.out (wr.drewN q2) ys hys HC.out.2.2.2 HC.out.2.2.1 (grown_drewN HC.out.2.1 q2) (l.getD (k0 + 1 + (k3 + 1)) 0) (l.getD (k0 + 1 + k3) 0) (mem_at HOk.out (by omega)) (mem_at HOk.out (by omega))).mono fun e w' hh => ⟨hh.1, by obtain ⟨z, hz⟩ := hh.2; exact ⟨q2 + z, by rw [hz, World.drewN_drewN]⟩⟩
              have HS2 : Hid (stays q l (k0 + 1 + (k3 + 1)) = !q (l.getD (k0 + 1 + (k3 + 1)) 0) (l.getD (k0 + 1 + k3) 0)) := Lib.hid (stays_s q l (k0 + 1 + k3))
              have HKp : Hid (ok (l.getD (k0 + 1 + (k3 + 1)) 0) ∧ (stays q l (k0 + 1 + (k3 + 1)) = true → CompTo q l (ys.set kk (l.getD (k0 + 1 + (k3 + 1)) 0)) (k0 + 1 + (k3 + 1) + 1) (kk + 1))) := Lib.hid ⟨mem_at HOk.out (by omega), fun hs => HC.out.1.keep (by omega) hs⟩
              have hkk2 : kk + 1 ≤ k0 + 1 + (k3 + 1) := HC.out.1.2.2.1
              generalize l.getD (k0 + 1 + (k3 + 1)) 0 = x2 at d1 HE HS2 HKp
              generalize l.getD (k0 + 1 + k3) 0 = y2 at d0 HE HS2
              have e0 : ((k3 : Int) + 1).toNat = k3 + 1 := by omega
              have p0 : (0 : Int) ≤ (k3 : Int) + 1 := by omega
              have p1 : (k3 : Int) + 1 < ((n - (k0 + 1) : Nat) : Int) := by omega
              have p2 : (k3 : Int) < ((n - (k0 + 1) : Nat) : Int) := by omega
              have e1 : (k3 : Int) + 1 - 1 = (k3 : Int) := by omega
              have e2 : IntKind.i64.wrap (k3 : Int) = (k3 : Int) := by rw [IntKind.wrap_i64]; omega
              cases hxy2 : q x2 y2 with
              | true =>
                rw [hxy2] at HE HS2
                go_wp2_with fail
                go_quiet ((go_at_fn g; exact HE.out _))
                go_wp2
                go_roundw
                case rel => exact ⟨kk, k3 + 1, ys, rfl, by go_num, by omega, hkk, Lib.hid ⟨HC.out.1.skip HS2.out, grown_drewN HC.out.2.1 _, HC.out.2.2.1, HC.out.2.2.2⟩⟩
                case measure => simp [intOf]; omega
              | false =>
                rw [hxy2] at HE HS2
                go_wp2_with fail
                go_quiet ((go_at_fn g; exact HE.out _))
                go_wp2
                go_roundw
                case rel => exact ⟨kk + 1, k3 + 1, ys.set kk x2, by go_num, by go_num, by omega, by omega, Lib.hid ⟨HKp.out.2 HS2.out, grown_set (grown_drewN HC.out.2.1 nq) kk _, by rw [List.map_set]; exact own_set (show (wr.drewN nq).ownsRow base 3 1 (.slice (some ⟨gb, 0, none⟩) n c) n (ys.map (Value.int .i64)) from HC.out.2.2.1) hkk _, fun z hz => by
                  rcases List.mem_or_eq_of_mem_set hz with h1 | h1
                  · exact HC.out.2.2.2 z h1
                  · rw [h1]; exact HKp.out.1⟩⟩
                case measure => simp [intOf]; omega
            · have hend : k0 + 1 + (k3 + 1) = n := by omega
              have hys : ys.length = n := by rw [HC.out.1.1]; exact hl
              have hcl : ∀ ty, (Builtin.clear_ #[22] ty #[.slice (some ⟨gb, kk, none⟩) (n - kk) (c - kk)]).run Try.prog wr = .ok (.tuple #[]) (wr.setCells gb kk (List.replicate (n - kk) (.int .i64 0))) :=
                fun ty => Lib.run_clear_slice wr _ _ ty _ Try.underlying22 (fun w => by kernel_rfl) rfl rfl gb kk _ _ (by omega) (fun j hj => by rw [own_at HC.out.2.2.1 hys (show kk + j < n by omega)]; rfl) (fun j hj => (own_cell0 HC.out.2.2.1 (show kk + j < n by omega)).2)
              have HEnd : Hid (compL q l n = ys.take kk ∧ (compL q l n).length = kk) := Lib.hid (by
                have h1 := HC.out.1
                rw [hend] at h1
                exact ⟨h1.2.2.2.1.symm, h1.2.1.symm⟩)
              have hkc : kk < c := by omega
              go_wp2
              go_ret
              obtain ⟨zs, hz1, hz2⟩ := own_sets (z := .int .i64 0) (n - kk) kk wr _ (by omega) HC.out.2.2.1
              refine ⟨kk, rfl, HEnd.out.2, ?_, grown_sets _ _ _ HC.out.2.1⟩
              have := own_cut hz2 (show kk ≤ n by omega)
              rw [hz1, ← List.map_take, ← HEnd.out.1] at this
              exact this
        | false =>
          rw [hxy] at HE HS
          go_wp2_with fail
          go_quiet ((go_at_fn g; exact HE.out _))
          clear e0 e1 e2 p0 p1 p2 c0 c1 HE
          go_wp2
          go_roundw
          case rel =>
           obtain ⟨z, hz⟩ := HWq.out
           exact ⟨k0 + 1 + 1, z + nq, by omega, by omega, by go_num, by rw [hz, World.drewN_drewN], Lib.hid fun j hj => by
            rcases Nat.lt_or_ge j (k0 + 1) with c | c
            · exact HSt.out j c
            · rw [show j = k0 + 1 from by omega]; exact HS.out⟩
          case measure => simp [intOf]; omega
      · obtain rfl : k = n := by omega
        have HS : Hid (compL q l k = l) := Lib.hid (HAll.out HSt.out)
        go_wp2
        go_ret
        exact ⟨k, rfl, by rw [HS.out]; exact hl, by rw [HS.out]; exact HO.out, ⟨rfl, rfl, rfl, Nat.le_refl _, fun _ _ _ => rfl⟩⟩
end Go.Proofs.Ythiccmncdmohbaa
