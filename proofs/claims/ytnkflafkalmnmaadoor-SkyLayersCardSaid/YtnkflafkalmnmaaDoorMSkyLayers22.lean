/-
  Contract of sky.Layers: the layers of points. Conditions: the points can be read as data.
-/
import Derived.Test.YtnkflafkalmnmaaDoorMSkyLayers19
import Derived.Test.YtnkflafkalmnmaaDoorMSkyLayers20
import Derived.Test.YtnkflafkalmnmaaDoorMSkyLayers21
set_option linter.unusedVariables false
set_option linter.unusedSimpArgs false
namespace Go.Dam.Sky
open Go Go.RowKit Go.Dam
set_option linter.unusedVariables false
theorem IsLayer.congr {X Y : Nat → Int} {n : Nat} {L M : Nat → Int} (h : IsLayer X Y n L) (e : ∀ i, i < n → M i = L i) : IsLayer X Y n M := fun i hi => by
  obtain ⟨a, b, c⟩ := h i hi
  rw [e i hi]
  refine ⟨a, fun k hk ha => by rw [e k hk]; exact b k hk ha, ?_⟩
  rcases c with c | ⟨k, hk, ha, c⟩
  · exact .inl c
  · exact .inr ⟨k, hk, ha, by rw [e k hk]; exact c⟩
/-- What Layers answers. -/
def LayersR (n : Nat) (l r : List Int) (cc : Int) : Prop := cc = ptCode n l ∧ (cc ≠ 0 → r = []) ∧ (cc = 0 → r.length = n ∧ IsLayer (pX l) (pY l) n (fun i => r.getD i 0))
theorem LayersR.uniq {n : Nat} {l r s : List Int} {cc : Int} (h : LayersR n l r cc) (g : LayersR n l s cc) : r = s := by
  by_cases c0 : cc = 0
  · obtain ⟨h1, h2⟩ := h.2.2 c0
    obtain ⟨g1, g2⟩ := g.2.2 c0
    refine List.ext_getElem (by omega) fun i a b => ?_
    have := h2.uniq _ _ g2 (i := i) (by omega)
    simpa [List.getD_eq_getElem?_getD, List.getElem?_eq_getElem a, List.getElem?_eq_getElem b] using this
  · rw [h.2.1 c0, g.2.1 c0]
/-- The state of the sweep. -/
def LaySt (l : List Int) (n : Nat) (o : List Nat) (k m : Nat) (T Xs : List Int) : Prop := T.length = m ∧ m + k ≤ n ∧ Xs.length = n ∧ (∀ z ∈ Xs, 0 ≤ z ∧ z ≤ 150) ∧ ∃ L : Nat → Int, (∀ i, i < n → Xs.getD i 0 = L i) ∧ LayInv (pX l) (pY l) n o k L T
theorem set_mem {Xs : List Int} {a : Nat} {x z : Int} (h : z ∈ Xs.set a x) : z ∈ Xs ∨ z = x := by
  rcases List.mem_or_eq_of_mem_set h with h | h
  · exact .inl h
  · exact .inr h
theorem set_upd {Xs : List Int} {L : Nat → Int} {n a : Nat} {x : Int} (hl : Xs.length = n) (h : ∀ i, i < n → Xs.getD i 0 = L i) : ∀ i, i < n → (Xs.set a x).getD i 0 = upd L a x i := fun i hi => by
  by_cases e : i = a
  · subst e; rw [set_getD_same (by omega), upd_same]
  · rw [set_getD_ne (fun h => e h.symm), upd_ne e, h i hi]
theorem LaySt.same {l : List Int} {n : Nat} {o : List Nat} {k m : Nat} {T Xs : List Int} (h : LaySt l n o (k + 1) m T Xs) (ho : OrdUp (pX l) (pY l) n o) (hk : k + 1 < n) (ex : pX l (o.getD (k + 1) 0) = pX l (o.getD k 0)) (ey : pY l (o.getD (k + 1) 0) = pY l (o.getD k 0)) : LaySt l n o k m T (Xs.set (o.getD k 0) (Xs.getD (o.getD (k + 1) 0) 0)) := by
  obtain ⟨h1, h2, h3, h4, L, h5, h6⟩ := h
  have hb := perm_lt ho.1 hk
  refine ⟨h1, by omega, by rw [List.length_set]; exact h3, fun z hz => ?_, _, set_upd h3 h5, ?_⟩
  · rcases set_mem hz with hz | rfl
    · exact h4 z hz
    · refine h4 _ ?_
      rw [List.getD_eq_getElem?_getD, List.getElem?_eq_getElem (by omega)]; exact List.getElem_mem _
  · rw [h5 _ hb]
    exact LayInv.same _ _ h6 ho hk ex ey
theorem LaySt.push {l : List Int} {n : Nat} {o : List Nat} {k m : Nat} {T Xs : List Int} (h : LaySt l n o (k + 1) m T Xs) (ho : OrdUp (pX l) (pY l) n o) (hk : k < n) (hn : n ≤ 150) (hne : k + 1 < n → ¬ (pX l (o.getD (k + 1) 0) = pX l (o.getD k 0) ∧ pY l (o.getD (k + 1) 0) = pY l (o.getD k 0)))
    (hge : ∀ j, j < m → pY l (o.getD k 0) ≤ T.getD j 0) : LaySt l n o k (m + 1) (T ++ [pY l (o.getD k 0)]) (Xs.set (o.getD k 0) (m : Int)) := by
  obtain ⟨h1, h2, h3, h4, L, h5, h6⟩ := h
  refine ⟨by rw [List.length_append, h1]; rfl, by omega, by rw [List.length_set]; exact h3, fun z hz => ?_, _, set_upd h3 h5, ?_⟩
  · rcases set_mem hz with hz | rfl
    · exact h4 z hz
    · omega
  · refine LayInv.fresh _ _ h6 ho hk hne (by omega) hge (fun hlt => by omega) (by rw [if_pos h1.symm, List.length_append]; rfl) fun j hj => ?_
    rw [List.length_append] at hj
    simp only [List.length_singleton] at hj
    rw [List.getD_eq_getElem?_getD]
    by_cases e : j = m
    · rw [if_pos e, List.getElem?_append_right (by omega), e, h1, Nat.sub_self]; rfl
    · rw [if_neg e, List.getElem?_append_left (by omega), ← List.getD_eq_getElem?_getD]
theorem LaySt.put {l : List Int} {n : Nat} {o : List Nat} {k m s : Nat} {T Xs : List Int} (h : LaySt l n o (k + 1) m T Xs) (ho : OrdUp (pX l) (pY l) n o) (hk : k < n) (hn : n ≤ 150) (hne : k + 1 < n → ¬ (pX l (o.getD (k + 1) 0) = pX l (o.getD k 0) ∧ pY l (o.getD (k + 1) 0) = pY l (o.getD k 0)))
    (hs : s < m) (hge : ∀ j, j < s → pY l (o.getD k 0) ≤ T.getD j 0) (hlt : T.getD s 0 < pY l (o.getD k 0)) : LaySt l n o k m (T.set s (pY l (o.getD k 0))) (Xs.set (o.getD k 0) (s : Int)) := by
  obtain ⟨h1, h2, h3, h4, L, h5, h6⟩ := h
  refine ⟨by rw [List.length_set]; exact h1, by omega, by rw [List.length_set]; exact h3, fun z hz => ?_, _, set_upd h3 h5, ?_⟩
  · rcases set_mem hz with hz | rfl
    · exact h4 z hz
    · omega
  · refine LayInv.fresh _ _ h6 ho hk hne (by omega) hge (fun _ => hlt) (by rw [if_neg (by omega), List.length_set]) fun j hj => ?_
    rw [List.length_set] at hj
    by_cases e : j = s
    · subst e; rw [if_pos rfl, set_getD_same (by omega)]
    · rw [if_neg e, set_getD_ne (fun h => e h.symm)]
theorem LaySt.start (l : List Int) (n : Nat) (o : List Nat) : LaySt l n o n 0 [] (List.replicate n 0) :=
  ⟨rfl, by omega, by simp, fun z hz => by rw [List.eq_of_mem_replicate hz]; omega, fun _ => 0, fun i hi => by simp [hi], LayInv.start _ _ n o _⟩
theorem LaySt.done {l : List Int} {n : Nat} {o : List Nat} {m : Nat} {T Xs : List Int} (h : LaySt l n o 0 m T Xs) (ho : OrdUp (pX l) (pY l) n o) (hc : ptCode n l = 0) : LayersR n l Xs 0 := by
  obtain ⟨h1, h2, h3, h4, L, h5, h6⟩ := h
  exact ⟨hc.symm, fun h => absurd rfl h, fun _ => ⟨h3, (h6.done _ _ ho.1).congr h5⟩⟩
theorem own_butS {w w' : World} {base size n gB : Nat} {E : TypeId} {v : Value} {xs : List Value} (h : w.ownsRow base E size v n xs) (hb : BelowBut w.heap.size gB w w') (hg : gB < base) : w'.ownsRow base E size v n xs := by
  refine ⟨h.1, ?_⟩
  rcases h.2 with hn | ⟨g, cap, cur, rfl, h1, h2, rest⟩
  · exact .inl hn
  · exact .inr ⟨g, cap, cur, rfl, h1, (hb.block g (Array.getElem?_eq_some_iff.1 h2).1 (by omega)).trans h2, rest⟩
end Go.Dam.Sky
namespace Go.Proofs.YtnkflafkalmnmaaDoor
open Go Go.RowKit Go.Dam Go.Dam.Sky
set_option linter.unusedVariables false
theorem own_atS {w : World} {base g n c : Nat} {l : List Int} (h : w.ownsRow base 3 1 (.slice (some ⟨g, 0, none⟩) n c) n (l.map (Value.int .i64))) (hl : l.length = n) {i : Nat} (hi : i < n) : w.cell? ⟨g, i, none⟩ = some (.int .i64 (l.getD i 0)) := by
  rw [h.cellAt i (by omega), List.getElem?_map, List.getD_eq_getElem?_getD, List.getElem?_eq_getElem (by omega)]; rfl
set_option maxRecDepth 100000 in
set_option maxHeartbeats 16000000 in
theorem skyLayers_any (v : Value) (n : Nat) (l : List Int) (w : World) (B : Nat) (hB : B ≤ w.heap.size) (h : IsFlat 3 w B v n l) :
    Calls Tryd.prog 5 #[v] w fun e w' => ∃ u r, e = .returned (.tuple #[u, .int .i64 (ptCode n l)]) ∧ LayersR n l r (ptCode n l) ∧ IsInts .i64 w' w'.heap.size u r ∧ RowKit.Below w.heap.size w w' := by
  have HC := Lib.hid (gridCheck_any v n l w B hB h)
  obtain ⟨cc, hcc⟩ : ∃ c, c = ptCode n l := ⟨_, rfl⟩
  rw [← hcc] at HC ⊢
  have HCc := Lib.hid hcc
  by_cases c0 : cc = 0
  rotate_left
  · obtain ⟨A, c, rfl, hc, hm, hn, hl, hr, hw⟩ := h
    have t0 : (cc != 0) = true := bne_iff_ne.2 c0
    have HR : Hid (LayersR n l [] cc) := Lib.hid ⟨hcc, fun _ => rfl, fun h => absurd h c0⟩
    clear hr hl hw hcc c0
    go_enter Tryd.func5, Tryd.ntmps5
    go_wp2_with (go_at_call 10; refine (HC.out).mono ?_; rintro e w1 ⟨rfl, hb1⟩)
    go_ret2
    exact ⟨_, [], rfl, HR.out, isInts_nil _ _ _, hb1⟩
  · subst c0
    obtain ⟨hn1, hf⟩ := ptCode_ok hcc.symm
    have HSo := Lib.hid fun W (hb : RowKit.Below w.heap.size w W) => skySorted_any v n l W B (Nat.le_trans hB hb.size) (h.below (hb.mono hB)) hn1
    obtain ⟨A, c, rfl, hc, hm, hn, hl, hr, hw⟩ := h
    have HR := Lib.hid hr
    have hmk := fun w' => run_make1 el_int rfl (n : Int) n rfl (by omega) (by omega) w'
    clear hr hw hcc hf
    go_enter Tryd.func5, Tryd.ntmps5
    go_wp2_with (first
      | (go_at_call 10; refine (HC.out).mono ?_; rintro e w1 ⟨rfl, hb1⟩; have HB1 := Lib.hid hb1; have HBz := Lib.hid (hb1.alloc hb1.size (.cells (List.replicate n (Value.int .i64 0)).toArray 3)); have HZ := Lib.hid (IBlk.zeros (k := .i64) (t := 3) w1 n); clear hb1)
      | (go_at_call 11; refine (HSo.out _ HBz.out).mono ?_; rintro e wS ⟨u, o, rfl, hord, hownO, hbS⟩; have HOrd := Lib.hid hord; have HOw := Lib.hid hownO; have HBS := Lib.hid hbS; obtain ⟨Ao, co, rfl⟩ := own_shape hownO; clear hord hownO hbS))
    clear hmk
    have hz1 := HB1.out.size
    have hzS := HBS.out.size
    simp only [World.size_alloc] at hzS
    have HOut0 := Lib.hid (HZ.out.below HBS.out (by simp))
    have HBw : Hid (RowKit.Below w.heap.size w wS) := Lib.hid (HBz.out.trans (HBS.out.mono (by simp; omega)))
    have HNl : Hid ((natL o).length = n) := Lib.hid (by rw [natL_len]; have := HOrd.out.1.length_eq; simpa using this)
    obtain ⟨gO, hgO⟩ : ∃ g, g = w1.heap.size := ⟨_, rfl⟩
    rw [← hgO] at HOut0 hzS hz1 ⊢
    have HOw2 : Hid (wS.ownsRow (gO + 1) 3 1 (.slice Ao n co) n ((natL o).map (Value.int .i64))) := Lib.hid (by have := HOw.out; rw [World.size_alloc, ← hgO] at this; exact this)
    clear HOw HZ HBz HSo HB1 HBS hgO
    go_loopw [6, 8] (fun tv kv wr => ∃ (k : Nat) (kz : Int) (m : Nat) (A6 : Option Addr) (c6 : Nat) (T Xs : List Int), k ≤ n ∧ kz + 1 = (k : Int) ∧ kv = .int .i64 kz ∧ tv = .slice A6 m c6 ∧ Hid (LaySt l n o k m T Xs) ∧ Hid (wr.ownsRow wS.heap.size 3 1 (.slice A6 m c6) m (T.map (Value.int .i64))) ∧ Hid (IBlk .i64 3 wr gO Xs) ∧ Hid (BelowBut wS.heap.size gO wS wr)) (fun _ kv _ => (intOf kv + 1).toNat)
    case atStart => exact ⟨n, _, 0, none, 0, [], _, by omega, by omega, rfl, rfl, Lib.hid (LaySt.start l n o), Lib.hid (World.ownsRow_nil _ _ _ _), HOut0, Lib.hid (BelowBut.refl _ _ _)⟩
    case round =>
      clear HOut0
      obtain ⟨wo, rfl⟩ : ∃ wo : World, wo = wr := ⟨_, rfl⟩
      obtain ⟨k, kz, m, A6, c6, T, Xs, hk, hkz, rfl, rfl, HSt, HT, HX, HBu⟩ := hrel
      have hzo := HBu.out.size
      rcases Nat.eq_zero_or_pos k with hk0 | hk0
      · subst hk0
        have t1 : decide (0 ≤ kz) = false := decide_eq_false (by omega)
        have HLR := Lib.hid (HSt.out.done HOrd.out HCc.out.symm)
        go_wp2_with fail
        go_ret2
        refine ⟨_, Xs, rfl, HLR.out, ?_, HBw.out.trans (HBu.out.below (by omega) (by omega))⟩
        have := IBlk.isInts HX.out (by rw [HSt.out.2.2.1]; omega) (fun z hz => by have := HSt.out.2.2.2.1 z hz; exact WalkArith.wf_i64 (by omega))
        rw [HSt.out.2.2.1] at this
        exact this
      · obtain ⟨j, rfl⟩ : ∃ j, k = j + 1 := ⟨k - 1, by omega⟩
        obtain rfl : kz = (j : Int) := by omega
        clear hkz
        have t1 : decide (0 ≤ (j : Int)) = true := decide_eq_true (by omega)
        have hjn : j < n := by omega
        obtain ⟨go, capo, hvo, hgo, hlto⟩ := HOw2.out.form (by omega)
        obtain rfl : Ao = some ⟨go, 0, none⟩ := by injection hvo
        obtain ⟨bk, off, rfl, hbk, hcs⟩ := flat_cells HR.out hl (by omega) (by omega)
        have hwS := HBw.out.size
        have ord : ∀ u, u < n → wo.cell? ⟨go, u, none⟩ = some (.int .i64 ((o.getD u 0 : Nat) : Int)) := fun u hu => by
          have h1 := own_atS HOw2.out HNl.out hu
          rw [natL_at] at h1
          exact (HBu.out.cell (p := ⟨go, u, none⟩) hlto (by show go ≠ gO; omega)).trans h1
        have pts : ∀ q, q < n * 3 → wo.cell? ⟨bk, off + q, none⟩ = some (.int .i64 (l.getD q 0)) := fun q hq => (HBu.out.cell (p := ⟨bk, off + q, none⟩) (by show bk < _; omega) (by show bk ≠ gO; omega)).trans ((HBw.out.cell (p := ⟨bk, off + q, none⟩) (by show bk < _; omega)).trans (hcs q hq))
        have ha := perm_lt HOrd.out.1 hjn
        obtain ⟨a, haa⟩ : ∃ a, a = o.getD j 0 := ⟨_, rfl⟩
        have o0 := ord j hjn
        rw [← haa] at o0 ha
        have p0 := pts (a * 3) (by omega)
        have p1 : wo.cell? ⟨bk, off + a * 3 + 1, none⟩ = some (.int .i64 (l.getD (a * 3 + 1) 0)) := pts (a * 3 + 1) (by omega)
        have p2 : wo.cell? ⟨bk, off + a * 3 + 2, none⟩ = some (.int .i64 (l.getD (a * 3 + 2) 0)) := pts (a * 3 + 2) (by omega)
        have hm150 : m + j + 1 ≤ n := by have := HSt.out.2.1; omega
        have HOr := Lib.hid ord
        have HPt := Lib.hid pts
        have HA := Lib.hid haa
        obtain ⟨px, hpx⟩ : ∃ z, z = l.getD (a * 3) 0 := ⟨_, rfl⟩
        obtain ⟨py, hpy⟩ : ∃ z, z = l.getD (a * 3 + 1) 0 := ⟨_, rfl⟩
        obtain ⟨pz, hpz⟩ : ∃ z, z = l.getD (a * 3 + 2) 0 := ⟨_, rfl⟩
        rw [← hpx] at p0
        rw [← hpy] at p1
        rw [← hpz] at p2
        have HPx : Hid (px = pX l (o.getD j 0)) := Lib.hid (by rw [hpx, haa]; rfl)
        have HPy : Hid (py = pY l (o.getD j 0)) := Lib.hid (by rw [hpy, haa]; rfl)
        have w1j : IntKind.i64.wrap ((j : Int) + 1) = (j : Int) + 1 := by rw [IntKind.wrap_i64]; omega
        have w2j : IntKind.i64.wrap ((j : Int) - 1) = (j : Int) - 1 := by rw [IntKind.wrap_i64]; omega
        have ia : (a : Int) < (n : Int) := by omega
        have ij : (j : Int) < (n : Int) := by omega
        clear ord pts hcs haa hpx hpy hpz hvo
        by_cases hj1 : j + 1 < n
        · have t2 : decide ((j : Int) + 1 < (n : Int)) = true := decide_eq_true (by omega)
          have hb := perm_lt HOrd.out.1 hj1
          obtain ⟨b, hbb⟩ : ∃ b, b = o.getD (j + 1) 0 := ⟨_, rfl⟩
          have o2 := HOr.out (j + 1) hj1
          rw [← hbb] at o2 hb
          have q0 := HPt.out (b * 3) (by omega)
          have q1 : wo.cell? ⟨bk, off + b * 3 + 1, none⟩ = some (.int .i64 (l.getD (b * 3 + 1) 0)) := HPt.out (b * 3 + 1) (by omega)
          have q2 : wo.cell? ⟨bk, off + b * 3 + 2, none⟩ = some (.int .i64 (l.getD (b * 3 + 2) 0)) := HPt.out (b * 3 + 2) (by omega)
          obtain ⟨qx, hqx⟩ : ∃ z, z = l.getD (b * 3) 0 := ⟨_, rfl⟩
          obtain ⟨qy, hqy⟩ : ∃ z, z = l.getD (b * 3 + 1) 0 := ⟨_, rfl⟩
          obtain ⟨qz, hqz⟩ : ∃ z, z = l.getD (b * 3 + 2) 0 := ⟨_, rfl⟩
          rw [← hqx] at q0
          rw [← hqy] at q1
          rw [← hqz] at q2
          have HQx : Hid (qx = pX l (o.getD (j + 1) 0)) := Lib.hid (by rw [hqx, hbb]; rfl)
          have HQy : Hid (qy = pY l (o.getD (j + 1) 0)) := Lib.hid (by rw [hqy, hbb]; rfl)
          have HBb := Lib.hid hbb
          have ib : (b : Int) < (n : Int) := by omega
          have ij1 : (j : Int) + 1 < (n : Int) := by omega
          have hgo5 : go < wo.heap.size := by omega
          have hbw : bk < wo.heap.size := by omega
          clear hqx hqy hqz hbb
          by_cases hxe : qx = px
          · have t3 : (qx == px) = true := beq_iff_eq.2 hxe
            by_cases hye : qy = py
            · have t4 : (qy == py) = true := beq_iff_eq.2 hye
              have HSa := Lib.hid (HSt.out.same HOrd.out hj1 (by rw [← HQx.out, ← HPx.out]; exact hxe) (by rw [← HQy.out, ← HPy.out]; exact hye))
              rw [← HA.out, ← HBb.out] at HSa
              have HXb := Lib.hid (HX.out.cell (i := b) (by rw [HSt.out.2.2.1]; exact hb))
              obtain ⟨xb, hxb⟩ : ∃ z, z = Xs.getD b 0 := ⟨_, rfl⟩
              rw [← hxb] at HSa HXb
              have HLg := Lib.hid HSt.out.2.2.1
              clear hxe hye hxb
              go_wp2_with fail
              have HO5 : Hid (((wo.alloc (.cells #[.int .i64 px, .int .i64 py, .int .i64 pz] 32)).alloc (.cells #[.int .i64 qx, .int .i64 qy, .int .i64 qz] 32)).cell? ⟨go, j + 1, none⟩ = some (.int .i64 (b : Int))) := Lib.hid ((World.cell?_alloc_lt _ _ _ (by show go < _; simp; omega)).trans ((World.cell?_alloc_lt _ _ _ (by show go < _; omega)).trans o2))
              have HXb5 : Hid (((wo.alloc (.cells #[.int .i64 px, .int .i64 py, .int .i64 pz] 32)).alloc (.cells #[.int .i64 qx, .int .i64 qy, .int .i64 qz] 32)).cell? ⟨gO, b, none⟩ = some (.int .i64 xb)) := Lib.hid ((World.cell?_alloc_lt _ _ _ (by show gO < _; simp; omega)).trans ((World.cell?_alloc_lt _ _ _ (by show gO < _; omega)).trans HXb.out))
              have HTl : Hid (∀ g, (Value.slice A6 m c6).ownBlock = some g → g < wo.heap.size) := Lib.hid fun g hg => (HT.out.lt g hg).2
              have HXt : Hid (IBlk .i64 3 ((wo.alloc (.cells #[.int .i64 px, .int .i64 py, .int .i64 pz] 32)).alloc (.cells #[.int .i64 qx, .int .i64 qy, .int .i64 qz] 32)) gO Xs) := Lib.hid ((HX.out.alloc _).alloc _)
              have HTt : Hid (((wo.alloc (.cells #[.int .i64 px, .int .i64 py, .int .i64 pz] 32)).alloc (.cells #[.int .i64 qx, .int .i64 qy, .int .i64 qz] 32)).ownsRow wS.heap.size 3 1 (.slice A6 m c6) m (T.map (Value.int .i64))) := Lib.hid ((HT.out.alloc _).alloc _)
              have HBt : Hid (BelowBut wS.heap.size gO wS ((wo.alloc (.cells #[.int .i64 px, .int .i64 py, .int .i64 pz] 32)).alloc (.cells #[.int .i64 qx, .int .i64 qy, .int .i64 qz] 32))) := Lib.hid (HBu.out.trans (.of_below (((RowKit.Below.refl _ _).alloc hzo _).alloc (by simp; omega) _)))
              have HPt2 : Hid (Blk ((wo.alloc (.cells #[.int .i64 px, .int .i64 py, .int .i64 pz] 32)).alloc (.cells #[.int .i64 qx, .int .i64 qy, .int .i64 qz] 32)) wo.heap.size 32 #[.int .i64 px, .int .i64 py, .int .i64 pz]) := Lib.hid ((Blk.new _ _ _).alloc _)
              have o1 : ((wo.alloc (.cells #[.int .i64 px, .int .i64 py, .int .i64 pz] 32)).alloc (.cells #[.int .i64 qx, .int .i64 qy, .int .i64 qz] 32)).cell? ⟨go, j, none⟩ = some (.int .i64 (a : Int)) := (World.cell?_alloc_lt _ _ _ (by show go < _; simp; omega)).trans ((World.cell?_alloc_lt _ _ _ (by show go < _; omega)).trans o0)
              have hzt : wo.heap.size < ((wo.alloc (.cells #[.int .i64 px, .int .i64 py, .int .i64 pz] 32)).alloc (.cells #[.int .i64 qx, .int .i64 qy, .int .i64 qz] 32)).heap.size := by simp; omega
              clear HX HT HBu o0
              generalize ((wo.alloc (.cells #[.int .i64 px, .int .i64 py, .int .i64 pz] 32)).alloc (.cells #[.int .i64 qx, .int .i64 qy, .int .i64 qz] 32)) = wt at HO5 HXb5 HXt HTt HBt HPt2 o1 hzt ⊢
              have o5 : wt.cell? ⟨go, j + 1, none⟩ = some (.int .i64 (b : Int)) := HO5.out
              have xb5 : wt.cell? ⟨gO, b, none⟩ = some (.int .i64 xb) := HXb5.out
              have xa5 : wt.cell? ⟨gO, a, none⟩ = some (.int .i64 (Xs.getD a 0)) := HXt.out.cell (by rw [HLg.out]; exact ha)
              have fa5 : wt.frozen? ⟨gO, a, none⟩ = false := HXt.out.frozen a
              have HgO := Lib.hid (show gO < wS.heap.size by omega)
              clear hlto hgo p0 p1 p2 q0 q1 q2 o2
              go_region
              all_goals
                go_wp2
                go_roundw
                case rel =>
                  refine ⟨j, (j : Int) - 1, m, _, c6, T, Xs.set a xb, by omega, by omega, rfl, rfl, HSa, Lib.hid ((ownsRow_setCell_below HTt.out (a := ⟨gO, a, none⟩) HgO.out (.int .i64 xb)).drew), Lib.hid (HXt.out.set a xb), Lib.hid ((HBt.out.setCell _ _).trans ⟨rfl, rfl, rfl, Nat.le_refl _, fun _ _ _ => rfl⟩)⟩
                case measure => simp [intOf]
            · have t4 : (qy == py) = false := beq_eq_false_iff_ne.2 hye
              have HNe : Hid (j + 1 < n → ¬ (pX l (o.getD (j + 1) 0) = pX l (o.getD j 0) ∧ pY l (o.getD (j + 1) 0) = pY l (o.getD j 0))) := Lib.hid fun _ h => hye (by rw [HQy.out, HPy.out]; exact h.2)
              clear hxe hye
              go_wp2_with fail
              clear p0 p1 p2 q0 q1 q2 o2
              have HTl : Hid (∀ g, (Value.slice A6 m c6).ownBlock = some g → g < wo.heap.size) := Lib.hid fun g hg => (HT.out.lt g hg).2
              have HXt : Hid (IBlk .i64 3 ((wo.alloc (.cells #[.int .i64 px, .int .i64 py, .int .i64 pz] 32)).alloc (.cells #[.int .i64 qx, .int .i64 qy, .int .i64 qz] 32)) gO Xs) := Lib.hid ((HX.out.alloc _).alloc _)
              have HTt : Hid (((wo.alloc (.cells #[.int .i64 px, .int .i64 py, .int .i64 pz] 32)).alloc (.cells #[.int .i64 qx, .int .i64 qy, .int .i64 qz] 32)).ownsRow wS.heap.size 3 1 (.slice A6 m c6) m (T.map (Value.int .i64))) := Lib.hid ((HT.out.alloc _).alloc _)
              have HBt : Hid (BelowBut wS.heap.size gO wS ((wo.alloc (.cells #[.int .i64 px, .int .i64 py, .int .i64 pz] 32)).alloc (.cells #[.int .i64 qx, .int .i64 qy, .int .i64 qz] 32))) := Lib.hid (HBu.out.trans (.of_below (((RowKit.Below.refl _ _).alloc hzo _).alloc (by simp; omega) _)))
              have HPt2 : Hid (Blk ((wo.alloc (.cells #[.int .i64 px, .int .i64 py, .int .i64 pz] 32)).alloc (.cells #[.int .i64 qx, .int .i64 qy, .int .i64 qz] 32)) wo.heap.size 32 #[.int .i64 px, .int .i64 py, .int .i64 pz]) := Lib.hid ((Blk.new _ _ _).alloc _)
              have o1 : ((wo.alloc (.cells #[.int .i64 px, .int .i64 py, .int .i64 pz] 32)).alloc (.cells #[.int .i64 qx, .int .i64 qy, .int .i64 qz] 32)).cell? ⟨go, j, none⟩ = some (.int .i64 (a : Int)) := (World.cell?_alloc_lt _ _ _ (by show go < _; simp; omega)).trans ((World.cell?_alloc_lt _ _ _ (by show go < _; omega)).trans o0)
              have hzt : wo.heap.size < ((wo.alloc (.cells #[.int .i64 px, .int .i64 py, .int .i64 pz] 32)).alloc (.cells #[.int .i64 qx, .int .i64 qy, .int .i64 qz] 32)).heap.size := by simp; omega
              clear HX HT HBu o0
              generalize ((wo.alloc (.cells #[.int .i64 px, .int .i64 py, .int .i64 pz] 32)).alloc (.cells #[.int .i64 qx, .int .i64 qy, .int .i64 qz] 32)) = wt at HXt HTt HBt HPt2 o1 hzt ⊢
              have p1t : wt.cell? ⟨wo.heap.size, 1, none⟩ = some (.int .i64 py) := (HPt2.out.cell 1).trans rfl
              go_loopw [11] (fun nv wr => ∃ s : Nat, s ≤ m ∧ nv = .int .i64 s ∧ Hid (∀ q, q < s → py ≤ T.getD q 0) ∧ Drawn wt wr) (fun nv _ => m - (intOf nv).toNat)
              case atStart => exact ⟨0, by omega, rfl, Lib.hid fun q hq => absurd hq (by omega), Drawn.refl _⟩
              case round =>
                obtain ⟨s, hs, rfl, HG, d, rfl⟩ := hrel
                have w1s : IntKind.i64.wrap ((s : Int) + 1) = (s : Int) + 1 := by rw [IntKind.wrap_i64]; omega
                have is1 : (0 : Int) ≤ (s : Int) := by omega
                by_cases hsm : s < m
                · have t5 : decide ((s : Int) < (m : Int)) = true := decide_eq_true (by omega)
                  have ism : (s : Int) < (m : Int) := by omega
                  obtain ⟨gt, capt, hvt, hgt, hltt⟩ := HTt.out.form (by omega)
                  obtain rfl : A6 = some ⟨gt, 0, none⟩ := by injection hvt
                  clear hvt
                  have s0 : wt.cell? ⟨gt, s, none⟩ = some (.int .i64 (T.getD s 0)) := own_atS HTt.out HSt.out.1 hsm
                  have HSn := Lib.hid fun h => HSt.out.put HOrd.out hjn hn1 HNe.out hsm (fun q hq => by rw [← HPy.out]; exact HG.out q hq) h
                  rw [← HPy.out, ← HA.out] at HSn
                  obtain ⟨ts, hts⟩ : ∃ z, z = T.getD s 0 := ⟨_, rfl⟩
                  rw [← hts] at s0 HSn
                  have HTs := Lib.hid hts
                  clear hts
                  by_cases hcm : py ≤ ts
                  · have t6 : decide (py ≤ ts) = true := decide_eq_true hcm
                    have HG2 : Hid (∀ q, q < s + 1 → py ≤ T.getD q 0) := Lib.hid fun q hq => by
                      rcases Nat.lt_or_ge q s with h | h
                      · exact HG.out q h
                      · rw [show q = s by omega, ← HTs.out]; exact hcm
                    clear hcm HSn
                    go_wp2_with fail
                    go_quiet (fail)
                    go_wp2
                    go_roundw
                    case rel => exact ⟨s + 1, by omega, by go_num, HG2, ⟨_, rfl⟩⟩
                    case measure => simp [intOf]; omega
                  · have t6 : decide (py ≤ ts) = false := decide_eq_false hcm
                    have HSt2 := Lib.hid (HSn.out (by omega))
                    have hmx : max ts py = py := by omega
                    have t7 : ((s : Int) == (m : Int)) = false := beq_eq_false_iff_ne.2 (by omega)
                    clear hcm HSn
                    go_wp2_with fail
                    go_quiet (fail)
                    have HXq : Hid (IBlk .i64 3 ((wt.drewN d).drewN nq) gO Xs) := Lib.hid HXt.out
                    have HTq : Hid (((wt.drewN d).drewN nq).ownsRow wS.heap.size 3 1 (.slice (some ⟨gt, 0, none⟩) m c6) m (T.map (Value.int .i64))) := Lib.hid HTt.out
                    have HBq : Hid (BelowBut wS.heap.size gO wS ((wt.drewN d).drewN nq)) := Lib.hid (HBt.out.trans ⟨rfl, rfl, rfl, Nat.le_refl _, fun _ _ _ => rfl⟩)
                    have HPq : Hid (Blk ((wt.drewN d).drewN nq) wo.heap.size 32 #[.int .i64 px, .int .i64 py, .int .i64 pz]) := Lib.hid HPt2.out
                    have o3 : ((wt.drewN d).drewN nq).cell? ⟨go, j, none⟩ = some (.int .i64 (a : Int)) := o1
                    have p3 : ((wt.drewN d).drewN nq).cell? ⟨wo.heap.size, 1, none⟩ = some (.int .i64 py) := p1t
                    have x3 : ((wt.drewN d).drewN nq).cell? ⟨gO, a, none⟩ = some (.int .i64 (Xs.getD a 0)) := HXt.out.cell (by rw [HSt.out.2.2.1]; exact ha)
                    have f3 : ((wt.drewN d).drewN nq).frozen? ⟨gO, a, none⟩ = false := HXt.out.frozen a
                    have hzq : wo.heap.size < ((wt.drewN d).drewN nq).heap.size := hzt
                    have hgp1 : gO ≠ wo.heap.size := by omega
                    have hgp2 : wo.heap.size ≠ gO := by omega
                    have hgo1 : go ≠ gO := by omega
                    have hgt2 : gO ≠ gt := by omega
                    have HGt := Lib.hid hgt2
                    clear s0 hgt2
                    clear HXt HTt HBt HPt2 o1 p1t hzt
                    generalize (wt.drewN d).drewN nq = wq at *
                    have HMx := Lib.hid hmx
                    have HT7 := Lib.hid t7
                    clear hmx t6 t7
                    have HTr := Lib.hid (ownsRow_setCell_below HTq.out (a := ⟨gO, a, none⟩) (by show gO < wS.heap.size; omega) (.int .i64 (s : Int)))
                    have HXr : Hid (IBlk .i64 3 (wq.setCell ⟨gO, a, none⟩ (.int .i64 (s : Int))) gO (Xs.set a (s : Int))) := Lib.hid (HXq.out.set a (s : Int))
                    have HBr : Hid (BelowBut wS.heap.size gO wS (wq.setCell ⟨gO, a, none⟩ (.int .i64 (s : Int)))) := Lib.hid (HBq.out.setCell _ _)
                    have p4 : (wq.setCell ⟨gO, a, none⟩ (.int .i64 (s : Int))).cell? ⟨wo.heap.size, 1, none⟩ = some (.int .i64 py) := ((HPq.out.far (p := ⟨gO, a, none⟩) hgp2 (.int .i64 (s : Int))).cell 1).trans rfl
                    have s4 : (wq.setCell ⟨gO, a, none⟩ (.int .i64 (s : Int))).cell? ⟨gt, s, none⟩ = some (.int .i64 ts) := by rw [own_atS HTr.out HSt.out.1 hsm, ← HTs.out]
                    have f4 : (wq.setCell ⟨gO, a, none⟩ (.int .i64 (s : Int))).frozen? ⟨gt, s, none⟩ = false := (own_cell0 HTr.out hsm).2
                    have hsz : (wq.setCell ⟨gO, a, none⟩ (.int .i64 (s : Int))).heap.size = wq.heap.size := by simp [World.setCell]
                    clear HTq HXq HBq HPq p3
                    have HSm := Lib.hid hsm
                    have HGt5 := Lib.hid hgt
                    clear hgp1 hgp2 hgo1 hlto hgo hltt hgt hs ism hsm
                    go_upto_region 19 with fail
                    have t7 := HT7.out
                    go_wp2_with fail
                    have hsm := HSm.out
                    have ism : (s : Int) < (m : Int) := by omega
                    have hmx := HMx.out
                    generalize wq.setCell ⟨gO, a, none⟩ (.int .i64 (s : Int)) = wr2 at *
                    go_region
                    all_goals
                      go_wp2
                      go_roundw
                      case rel =>
                        have h9 := own_set HTr.out HSm.out (.int .i64 py)
                        rw [← List.map_set] at h9
                        refine ⟨j, (j : Int) - 1, m, _, c6, T.set s py, Xs.set a (s : Int), by omega, by omega, rfl, rfl, HSt2, Lib.hid h9, Lib.hid (HXr.out.far (p := ⟨gt, s, none⟩) HGt.out _), Lib.hid (HBr.out.trans (.of_below (((RowKit.Below.refl wS.heap.size _).setCell (p := ⟨gt, s, none⟩) HGt5.out _).drew)))⟩
                      case measure => simp [intOf]
                · obtain rfl : s = m := by omega
                  have t5 : decide ((s : Int) < (s : Int)) = false := decide_eq_false (by omega)
                  have t7 : ((s : Int) == (s : Int)) = true := beq_iff_eq.2 rfl
                  have HSn := Lib.hid (HSt.out.push HOrd.out hjn hn1 HNe.out (fun q hq => by rw [← HPy.out]; exact HG.out q hq))
                  rw [← HPy.out, ← HA.out] at HSn
                  go_wp2_with fail
                  go_quiet (fail)
                  have HXq : Hid (IBlk .i64 3 ((wt.drewN d).drewN nq) gO Xs) := Lib.hid HXt.out
                  have HTq : Hid (((wt.drewN d).drewN nq).ownsRow wS.heap.size 3 1 (.slice A6 s c6) s (T.map (Value.int .i64))) := Lib.hid HTt.out
                  have HBq : Hid (BelowBut wS.heap.size gO wS ((wt.drewN d).drewN nq)) := Lib.hid (HBt.out.trans ⟨rfl, rfl, rfl, Nat.le_refl _, fun _ _ _ => rfl⟩)
                  have HPq : Hid (Blk ((wt.drewN d).drewN nq) wo.heap.size 32 #[.int .i64 px, .int .i64 py, .int .i64 pz]) := Lib.hid HPt2.out
                  have o3 : ((wt.drewN d).drewN nq).cell? ⟨go, j, none⟩ = some (.int .i64 (a : Int)) := o1
                  have p3 : ((wt.drewN d).drewN nq).cell? ⟨wo.heap.size, 1, none⟩ = some (.int .i64 py) := p1t
                  have x3 : ((wt.drewN d).drewN nq).cell? ⟨gO, a, none⟩ = some (.int .i64 (Xs.getD a 0)) := HXt.out.cell (by rw [HSt.out.2.2.1]; exact ha)
                  have f3 : ((wt.drewN d).drewN nq).frozen? ⟨gO, a, none⟩ = false := HXt.out.frozen a
                  have hzq : wo.heap.size < ((wt.drewN d).drewN nq).heap.size := hzt
                  have hgp1 : gO ≠ wo.heap.size := by omega
                  have hgp2 : wo.heap.size ≠ gO := by omega
                  have hgo1 : go ≠ gO := by omega
                  clear HXt HTt HBt HPt2 o1 p1t hzt
                  generalize (wt.drewN d).drewN nq = wq at *
                  have HTs := Lib.hid (ownsRow_setCell_below HTq.out (a := ⟨gO, a, none⟩) (by show gO < wS.heap.size; omega) (.int .i64 (s : Int)))
                  have hsz : (wq.setCell ⟨gO, a, none⟩ (.int .i64 (s : Int))).heap.size = wq.heap.size := by simp [World.setCell]
                  have HXr : Hid (IBlk .i64 3 (wq.setCell ⟨gO, a, none⟩ (.int .i64 (s : Int))) gO (Xs.set a (s : Int))) := Lib.hid (HXq.out.set a (s : Int))
                  have HBr : Hid (BelowBut wS.heap.size gO wS (wq.setCell ⟨gO, a, none⟩ (.int .i64 (s : Int)))) := Lib.hid (HBq.out.setCell _ _)
                  have p4 : (wq.setCell ⟨gO, a, none⟩ (.int .i64 (s : Int))).cell? ⟨wo.heap.size, 1, none⟩ = some (.int .i64 py) := ((HPq.out.far (p := ⟨gO, a, none⟩) hgp2 (.int .i64 (s : Int))).cell 1).trans rfl
                  clear HTq HXq HBq HPq p3
                  go_wp2_with (at_builtin; refine wpList_pushD el_int rfl _ _ rfl wS.heap.size _ s _ (HTs.out.alloc _) rfl (wq.setCell ⟨gO, a, none⟩ (.int .i64 (s : Int))).heap.size 1 _ (by first | rfl | (rw [hsz]; rfl)) (new_cell rfl) rfl (by omega) (by omega) (by rw [World.size_alloc, hsz]; omega) ?_; intro v5 w5 hown5 hg5 hl5; have HO5 := Lib.hid hown5; have HG5 := Lib.hid hg5; obtain ⟨A7, c7, rfl⟩ := own_shape hown5; clear hown5 hg5 hl5)
                  go_roundw
                  case rel =>
                    refine ⟨j, (j : Int) - 1, s + 1, A7, c7, T ++ [py], Xs.set a (s : Int), by omega, by omega, rfl, rfl, HSn, Lib.hid (by rw [List.map_append]; exact HO5.out), Lib.hid ((HXr.out.alloc _).grown HG5.out (fun e => own_ne HTs.out (show gO < wS.heap.size by omega) e.symm)), Lib.hid (HBr.out.trans (.of_below (below_push ((RowKit.Below.refl wS.heap.size _).alloc (by rw [hsz]; omega) _) (HTs.out.alloc _) (Nat.le_refl _) (by rw [World.size_alloc, hsz]; omega) HG5.out)))⟩
                  case measure => simp [intOf]
          · have t3 : (qx == px) = false := beq_eq_false_iff_ne.2 hxe
            have HNe : Hid (j + 1 < n → ¬ (pX l (o.getD (j + 1) 0) = pX l (o.getD j 0) ∧ pY l (o.getD (j + 1) 0) = pY l (o.getD j 0))) := Lib.hid fun _ h => hxe (by rw [HQx.out, HPx.out]; exact h.1)
            clear hxe
            go_wp2_with fail
            clear p0 p1 p2 q0 q1 q2 o2
            have HTl : Hid (∀ g, (Value.slice A6 m c6).ownBlock = some g → g < wo.heap.size) := Lib.hid fun g hg => (HT.out.lt g hg).2
            have HXt : Hid (IBlk .i64 3 ((wo.alloc (.cells #[.int .i64 px, .int .i64 py, .int .i64 pz] 32)).alloc (.cells #[.int .i64 qx, .int .i64 qy, .int .i64 qz] 32)) gO Xs) := Lib.hid ((HX.out.alloc _).alloc _)
            have HTt : Hid (((wo.alloc (.cells #[.int .i64 px, .int .i64 py, .int .i64 pz] 32)).alloc (.cells #[.int .i64 qx, .int .i64 qy, .int .i64 qz] 32)).ownsRow wS.heap.size 3 1 (.slice A6 m c6) m (T.map (Value.int .i64))) := Lib.hid ((HT.out.alloc _).alloc _)
            have HBt : Hid (BelowBut wS.heap.size gO wS ((wo.alloc (.cells #[.int .i64 px, .int .i64 py, .int .i64 pz] 32)).alloc (.cells #[.int .i64 qx, .int .i64 qy, .int .i64 qz] 32))) := Lib.hid (HBu.out.trans (.of_below (((RowKit.Below.refl _ _).alloc hzo _).alloc (by simp; omega) _)))
            have HPt2 : Hid (Blk ((wo.alloc (.cells #[.int .i64 px, .int .i64 py, .int .i64 pz] 32)).alloc (.cells #[.int .i64 qx, .int .i64 qy, .int .i64 qz] 32)) wo.heap.size 32 #[.int .i64 px, .int .i64 py, .int .i64 pz]) := Lib.hid ((Blk.new _ _ _).alloc _)
            have o1 : ((wo.alloc (.cells #[.int .i64 px, .int .i64 py, .int .i64 pz] 32)).alloc (.cells #[.int .i64 qx, .int .i64 qy, .int .i64 qz] 32)).cell? ⟨go, j, none⟩ = some (.int .i64 (a : Int)) := (World.cell?_alloc_lt _ _ _ (by show go < _; simp; omega)).trans ((World.cell?_alloc_lt _ _ _ (by show go < _; omega)).trans o0)
            have hzt : wo.heap.size < ((wo.alloc (.cells #[.int .i64 px, .int .i64 py, .int .i64 pz] 32)).alloc (.cells #[.int .i64 qx, .int .i64 qy, .int .i64 qz] 32)).heap.size := by simp; omega
            clear HX HT HBu o0
            generalize ((wo.alloc (.cells #[.int .i64 px, .int .i64 py, .int .i64 pz] 32)).alloc (.cells #[.int .i64 qx, .int .i64 qy, .int .i64 qz] 32)) = wt at HXt HTt HBt HPt2 o1 hzt ⊢
            have p1t : wt.cell? ⟨wo.heap.size, 1, none⟩ = some (.int .i64 py) := (HPt2.out.cell 1).trans rfl
            go_loopw [11] (fun nv wr => ∃ s : Nat, s ≤ m ∧ nv = .int .i64 s ∧ Hid (∀ q, q < s → py ≤ T.getD q 0) ∧ Drawn wt wr) (fun nv _ => m - (intOf nv).toNat)
            case atStart => exact ⟨0, by omega, rfl, Lib.hid fun q hq => absurd hq (by omega), Drawn.refl _⟩
            case round =>
              obtain ⟨s, hs, rfl, HG, d, rfl⟩ := hrel
              have w1s : IntKind.i64.wrap ((s : Int) + 1) = (s : Int) + 1 := by rw [IntKind.wrap_i64]; omega
              have is1 : (0 : Int) ≤ (s : Int) := by omega
              by_cases hsm : s < m
              · have t5 : decide ((s : Int) < (m : Int)) = true := decide_eq_true (by omega)
                have ism : (s : Int) < (m : Int) := by omega
                obtain ⟨gt, capt, hvt, hgt, hltt⟩ := HTt.out.form (by omega)
                obtain rfl : A6 = some ⟨gt, 0, none⟩ := by injection hvt
                clear hvt
                have s0 : wt.cell? ⟨gt, s, none⟩ = some (.int .i64 (T.getD s 0)) := own_atS HTt.out HSt.out.1 hsm
                have HSn := Lib.hid fun h => HSt.out.put HOrd.out hjn hn1 HNe.out hsm (fun q hq => by rw [← HPy.out]; exact HG.out q hq) h
                rw [← HPy.out, ← HA.out] at HSn
                obtain ⟨ts, hts⟩ : ∃ z, z = T.getD s 0 := ⟨_, rfl⟩
                rw [← hts] at s0 HSn
                have HTs := Lib.hid hts
                clear hts
                by_cases hcm : py ≤ ts
                · have t6 : decide (py ≤ ts) = true := decide_eq_true hcm
                  have HG2 : Hid (∀ q, q < s + 1 → py ≤ T.getD q 0) := Lib.hid fun q hq => by
                    rcases Nat.lt_or_ge q s with h | h
                    · exact HG.out q h
                    · rw [show q = s by omega, ← HTs.out]; exact hcm
                  clear hcm HSn
                  go_wp2_with fail
                  go_quiet (fail)
                  go_wp2
                  go_roundw
                  case rel => exact ⟨s + 1, by omega, by go_num, HG2, ⟨_, rfl⟩⟩
                  case measure => simp [intOf]; omega
                · have t6 : decide (py ≤ ts) = false := decide_eq_false hcm
                  have HSt2 := Lib.hid (HSn.out (by omega))
                  have hmx : max ts py = py := by omega
                  have t7 : ((s : Int) == (m : Int)) = false := beq_eq_false_iff_ne.2 (by omega)
                  clear hcm HSn
                  go_wp2_with fail
                  go_quiet (fail)
                  have HXq : Hid (IBlk .i64 3 ((wt.drewN d).drewN nq) gO Xs) := Lib.hid HXt.out
                  have HTq : Hid (((wt.drewN d).drewN nq).ownsRow wS.heap.size 3 1 (.slice (some ⟨gt, 0, none⟩) m c6) m (T.map (Value.int .i64))) := Lib.hid HTt.out
                  have HBq : Hid (BelowBut wS.heap.size gO wS ((wt.drewN d).drewN nq)) := Lib.hid (HBt.out.trans ⟨rfl, rfl, rfl, Nat.le_refl _, fun _ _ _ => rfl⟩)
                  have HPq : Hid (Blk ((wt.drewN d).drewN nq) wo.heap.size 32 #[.int .i64 px, .int .i64 py, .int .i64 pz]) := Lib.hid HPt2.out
                  have o3 : ((wt.drewN d).drewN nq).cell? ⟨go, j, none⟩ = some (.int .i64 (a : Int)) := o1
                  have p3 : ((wt.drewN d).drewN nq).cell? ⟨wo.heap.size, 1, none⟩ = some (.int .i64 py) := p1t
                  have x3 : ((wt.drewN d).drewN nq).cell? ⟨gO, a, none⟩ = some (.int .i64 (Xs.getD a 0)) := HXt.out.cell (by rw [HSt.out.2.2.1]; exact ha)
                  have f3 : ((wt.drewN d).drewN nq).frozen? ⟨gO, a, none⟩ = false := HXt.out.frozen a
                  have hzq : wo.heap.size < ((wt.drewN d).drewN nq).heap.size := hzt
                  have hgp1 : gO ≠ wo.heap.size := by omega
                  have hgp2 : wo.heap.size ≠ gO := by omega
                  have hgo1 : go ≠ gO := by omega
                  have hgt2 : gO ≠ gt := by omega
                  have HGt := Lib.hid hgt2
                  clear s0 hgt2
                  clear HXt HTt HBt HPt2 o1 p1t hzt
                  generalize (wt.drewN d).drewN nq = wq at *
                  have HMx := Lib.hid hmx
                  have HT7 := Lib.hid t7
                  clear hmx t6 t7
                  have HTr := Lib.hid (ownsRow_setCell_below HTq.out (a := ⟨gO, a, none⟩) (by show gO < wS.heap.size; omega) (.int .i64 (s : Int)))
                  have HXr : Hid (IBlk .i64 3 (wq.setCell ⟨gO, a, none⟩ (.int .i64 (s : Int))) gO (Xs.set a (s : Int))) := Lib.hid (HXq.out.set a (s : Int))
                  have HBr : Hid (BelowBut wS.heap.size gO wS (wq.setCell ⟨gO, a, none⟩ (.int .i64 (s : Int)))) := Lib.hid (HBq.out.setCell _ _)
                  have p4 : (wq.setCell ⟨gO, a, none⟩ (.int .i64 (s : Int))).cell? ⟨wo.heap.size, 1, none⟩ = some (.int .i64 py) := ((HPq.out.far (p := ⟨gO, a, none⟩) hgp2 (.int .i64 (s : Int))).cell 1).trans rfl
                  have s4 : (wq.setCell ⟨gO, a, none⟩ (.int .i64 (s : Int))).cell? ⟨gt, s, none⟩ = some (.int .i64 ts) := by rw [own_atS HTr.out HSt.out.1 hsm, ← HTs.out]
                  have f4 : (wq.setCell ⟨gO, a, none⟩ (.int .i64 (s : Int))).frozen? ⟨gt, s, none⟩ = false := (own_cell0 HTr.out hsm).2
                  have hsz : (wq.setCell ⟨gO, a, none⟩ (.int .i64 (s : Int))).heap.size = wq.heap.size := by simp [World.setCell]
                  clear HTq HXq HBq HPq p3
                  have HSm := Lib.hid hsm
                  have HGt5 := Lib.hid hgt
                  clear hgp1 hgp2 hgo1 hlto hgo hltt hgt hs ism hsm
                  go_upto_region 19 with fail
                  have t7 := HT7.out
                  go_wp2_with fail
                  have hsm := HSm.out
                  have ism : (s : Int) < (m : Int) := by omega
                  have hmx := HMx.out
                  generalize wq.setCell ⟨gO, a, none⟩ (.int .i64 (s : Int)) = wr2 at *
                  go_region
                  all_goals
                    go_wp2
                    go_roundw
                    case rel =>
                      have h9 := own_set HTr.out HSm.out (.int .i64 py)
                      rw [← List.map_set] at h9
                      refine ⟨j, (j : Int) - 1, m, _, c6, T.set s py, Xs.set a (s : Int), by omega, by omega, rfl, rfl, HSt2, Lib.hid h9, Lib.hid (HXr.out.far (p := ⟨gt, s, none⟩) HGt.out _), Lib.hid (HBr.out.trans (.of_below (((RowKit.Below.refl wS.heap.size _).setCell (p := ⟨gt, s, none⟩) HGt5.out _).drew)))⟩
                    case measure => simp [intOf]
              · obtain rfl : s = m := by omega
                have t5 : decide ((s : Int) < (s : Int)) = false := decide_eq_false (by omega)
                have t7 : ((s : Int) == (s : Int)) = true := beq_iff_eq.2 rfl
                have HSn := Lib.hid (HSt.out.push HOrd.out hjn hn1 HNe.out (fun q hq => by rw [← HPy.out]; exact HG.out q hq))
                rw [← HPy.out, ← HA.out] at HSn
                go_wp2_with fail
                go_quiet (fail)
                have HXq : Hid (IBlk .i64 3 ((wt.drewN d).drewN nq) gO Xs) := Lib.hid HXt.out
                have HTq : Hid (((wt.drewN d).drewN nq).ownsRow wS.heap.size 3 1 (.slice A6 s c6) s (T.map (Value.int .i64))) := Lib.hid HTt.out
                have HBq : Hid (BelowBut wS.heap.size gO wS ((wt.drewN d).drewN nq)) := Lib.hid (HBt.out.trans ⟨rfl, rfl, rfl, Nat.le_refl _, fun _ _ _ => rfl⟩)
                have HPq : Hid (Blk ((wt.drewN d).drewN nq) wo.heap.size 32 #[.int .i64 px, .int .i64 py, .int .i64 pz]) := Lib.hid HPt2.out
                have o3 : ((wt.drewN d).drewN nq).cell? ⟨go, j, none⟩ = some (.int .i64 (a : Int)) := o1
                have p3 : ((wt.drewN d).drewN nq).cell? ⟨wo.heap.size, 1, none⟩ = some (.int .i64 py) := p1t
                have x3 : ((wt.drewN d).drewN nq).cell? ⟨gO, a, none⟩ = some (.int .i64 (Xs.getD a 0)) := HXt.out.cell (by rw [HSt.out.2.2.1]; exact ha)
                have f3 : ((wt.drewN d).drewN nq).frozen? ⟨gO, a, none⟩ = false := HXt.out.frozen a
                have hzq : wo.heap.size < ((wt.drewN d).drewN nq).heap.size := hzt
                have hgp1 : gO ≠ wo.heap.size := by omega
                have hgp2 : wo.heap.size ≠ gO := by omega
                have hgo1 : go ≠ gO := by omega
                clear HXt HTt HBt HPt2 o1 p1t hzt
                generalize (wt.drewN d).drewN nq = wq at *
                have HTs := Lib.hid (ownsRow_setCell_below HTq.out (a := ⟨gO, a, none⟩) (by show gO < wS.heap.size; omega) (.int .i64 (s : Int)))
                have hsz : (wq.setCell ⟨gO, a, none⟩ (.int .i64 (s : Int))).heap.size = wq.heap.size := by simp [World.setCell]
                have HXr : Hid (IBlk .i64 3 (wq.setCell ⟨gO, a, none⟩ (.int .i64 (s : Int))) gO (Xs.set a (s : Int))) := Lib.hid (HXq.out.set a (s : Int))
                have HBr : Hid (BelowBut wS.heap.size gO wS (wq.setCell ⟨gO, a, none⟩ (.int .i64 (s : Int)))) := Lib.hid (HBq.out.setCell _ _)
                have p4 : (wq.setCell ⟨gO, a, none⟩ (.int .i64 (s : Int))).cell? ⟨wo.heap.size, 1, none⟩ = some (.int .i64 py) := ((HPq.out.far (p := ⟨gO, a, none⟩) hgp2 (.int .i64 (s : Int))).cell 1).trans rfl
                clear HTq HXq HBq HPq p3
                go_wp2_with (at_builtin; refine wpList_pushD el_int rfl _ _ rfl wS.heap.size _ s _ (HTs.out.alloc _) rfl (wq.setCell ⟨gO, a, none⟩ (.int .i64 (s : Int))).heap.size 1 _ (by first | rfl | (rw [hsz]; rfl)) (new_cell rfl) rfl (by omega) (by omega) (by rw [World.size_alloc, hsz]; omega) ?_; intro v5 w5 hown5 hg5 hl5; have HO5 := Lib.hid hown5; have HG5 := Lib.hid hg5; obtain ⟨A7, c7, rfl⟩ := own_shape hown5; clear hown5 hg5 hl5)
                go_roundw
                case rel =>
                  refine ⟨j, (j : Int) - 1, s + 1, A7, c7, T ++ [py], Xs.set a (s : Int), by omega, by omega, rfl, rfl, HSn, Lib.hid (by rw [List.map_append]; exact HO5.out), Lib.hid ((HXr.out.alloc _).grown HG5.out (fun e => own_ne HTs.out (show gO < wS.heap.size by omega) e.symm)), Lib.hid (HBr.out.trans (.of_below (below_push ((RowKit.Below.refl wS.heap.size _).alloc (by rw [hsz]; omega) _) (HTs.out.alloc _) (Nat.le_refl _) (by rw [World.size_alloc, hsz]; omega) HG5.out)))⟩
                case measure => simp [intOf]
        · have t2 : decide ((j : Int) + 1 < (n : Int)) = false := decide_eq_false (by omega)
          have HNe : Hid (j + 1 < n → ¬ (pX l (o.getD (j + 1) 0) = pX l (o.getD j 0) ∧ pY l (o.getD (j + 1) 0) = pY l (o.getD j 0))) := Lib.hid fun h => absurd h hj1
          go_wp2_with fail
          have HTl : Hid (∀ g, (Value.slice A6 m c6).ownBlock = some g → g < wo.heap.size) := Lib.hid fun g hg => (HT.out.lt g hg).2
          have HXt : Hid (IBlk .i64 3 (wo.alloc (.cells #[.int .i64 px, .int .i64 py, .int .i64 pz] 32)) gO Xs) := Lib.hid (HX.out.alloc _)
          have HTt : Hid ((wo.alloc (.cells #[.int .i64 px, .int .i64 py, .int .i64 pz] 32)).ownsRow wS.heap.size 3 1 (.slice A6 m c6) m (T.map (Value.int .i64))) := Lib.hid (HT.out.alloc _)
          have HBt : Hid (BelowBut wS.heap.size gO wS (wo.alloc (.cells #[.int .i64 px, .int .i64 py, .int .i64 pz] 32))) := Lib.hid (HBu.out.trans (.of_below ((RowKit.Below.refl _ _).alloc hzo _)))
          have HPt2 : Hid (Blk (wo.alloc (.cells #[.int .i64 px, .int .i64 py, .int .i64 pz] 32)) wo.heap.size 32 #[.int .i64 px, .int .i64 py, .int .i64 pz]) := Lib.hid (Blk.new _ _ _)
          have o1 : (wo.alloc (.cells #[.int .i64 px, .int .i64 py, .int .i64 pz] 32)).cell? ⟨go, j, none⟩ = some (.int .i64 (a : Int)) := (World.cell?_alloc_lt _ _ _ (by show go < _; omega)).trans o0
          have hzt : wo.heap.size < (wo.alloc (.cells #[.int .i64 px, .int .i64 py, .int .i64 pz] 32)).heap.size := by simp
          clear HX HT HBu o0
          generalize (wo.alloc (.cells #[.int .i64 px, .int .i64 py, .int .i64 pz] 32)) = wt at HXt HTt HBt HPt2 o1 hzt ⊢
          have p1t : wt.cell? ⟨wo.heap.size, 1, none⟩ = some (.int .i64 py) := (HPt2.out.cell 1).trans rfl
          go_loopw [11] (fun nv wr => ∃ s : Nat, s ≤ m ∧ nv = .int .i64 s ∧ Hid (∀ q, q < s → py ≤ T.getD q 0) ∧ Drawn wt wr) (fun nv _ => m - (intOf nv).toNat)
          case atStart => exact ⟨0, by omega, rfl, Lib.hid fun q hq => absurd hq (by omega), Drawn.refl _⟩
          case round =>
            obtain ⟨s, hs, rfl, HG, d, rfl⟩ := hrel
            have w1s : IntKind.i64.wrap ((s : Int) + 1) = (s : Int) + 1 := by rw [IntKind.wrap_i64]; omega
            have is1 : (0 : Int) ≤ (s : Int) := by omega
            by_cases hsm : s < m
            · have t5 : decide ((s : Int) < (m : Int)) = true := decide_eq_true (by omega)
              have ism : (s : Int) < (m : Int) := by omega
              obtain ⟨gt, capt, hvt, hgt, hltt⟩ := HTt.out.form (by omega)
              obtain rfl : A6 = some ⟨gt, 0, none⟩ := by injection hvt
              clear hvt
              have s0 : wt.cell? ⟨gt, s, none⟩ = some (.int .i64 (T.getD s 0)) := own_atS HTt.out HSt.out.1 hsm
              have HSn := Lib.hid fun h => HSt.out.put HOrd.out hjn hn1 HNe.out hsm (fun q hq => by rw [← HPy.out]; exact HG.out q hq) h
              rw [← HPy.out, ← HA.out] at HSn
              obtain ⟨ts, hts⟩ : ∃ z, z = T.getD s 0 := ⟨_, rfl⟩
              rw [← hts] at s0 HSn
              have HTs := Lib.hid hts
              clear hts
              by_cases hcm : py ≤ ts
              · have t6 : decide (py ≤ ts) = true := decide_eq_true hcm
                have HG2 : Hid (∀ q, q < s + 1 → py ≤ T.getD q 0) := Lib.hid fun q hq => by
                  rcases Nat.lt_or_ge q s with h | h
                  · exact HG.out q h
                  · rw [show q = s by omega, ← HTs.out]; exact hcm
                clear hcm HSn
                go_wp2_with fail
                go_quiet (fail)
                go_wp2
                go_roundw
                case rel => exact ⟨s + 1, by omega, by go_num, HG2, ⟨_, rfl⟩⟩
                case measure => simp [intOf]; omega
              · have t6 : decide (py ≤ ts) = false := decide_eq_false hcm
                have HSt2 := Lib.hid (HSn.out (by omega))
                have hmx : max ts py = py := by omega
                have t7 : ((s : Int) == (m : Int)) = false := beq_eq_false_iff_ne.2 (by omega)
                clear hcm HSn
                go_wp2_with fail
                go_quiet (fail)
                have HXq : Hid (IBlk .i64 3 ((wt.drewN d).drewN nq) gO Xs) := Lib.hid HXt.out
                have HTq : Hid (((wt.drewN d).drewN nq).ownsRow wS.heap.size 3 1 (.slice (some ⟨gt, 0, none⟩) m c6) m (T.map (Value.int .i64))) := Lib.hid HTt.out
                have HBq : Hid (BelowBut wS.heap.size gO wS ((wt.drewN d).drewN nq)) := Lib.hid (HBt.out.trans ⟨rfl, rfl, rfl, Nat.le_refl _, fun _ _ _ => rfl⟩)
                have HPq : Hid (Blk ((wt.drewN d).drewN nq) wo.heap.size 32 #[.int .i64 px, .int .i64 py, .int .i64 pz]) := Lib.hid HPt2.out
                have o3 : ((wt.drewN d).drewN nq).cell? ⟨go, j, none⟩ = some (.int .i64 (a : Int)) := o1
                have p3 : ((wt.drewN d).drewN nq).cell? ⟨wo.heap.size, 1, none⟩ = some (.int .i64 py) := p1t
                have x3 : ((wt.drewN d).drewN nq).cell? ⟨gO, a, none⟩ = some (.int .i64 (Xs.getD a 0)) := HXt.out.cell (by rw [HSt.out.2.2.1]; exact ha)
                have f3 : ((wt.drewN d).drewN nq).frozen? ⟨gO, a, none⟩ = false := HXt.out.frozen a
                have hzq : wo.heap.size < ((wt.drewN d).drewN nq).heap.size := hzt
                have hgp1 : gO ≠ wo.heap.size := by omega
                have hgp2 : wo.heap.size ≠ gO := by omega
                have hgo1 : go ≠ gO := by omega
                have hgt2 : gO ≠ gt := by omega
                have HGt := Lib.hid hgt2
                clear s0 hgt2
                clear HXt HTt HBt HPt2 o1 p1t hzt
                generalize (wt.drewN d).drewN nq = wq at *
                have HMx := Lib.hid hmx
                have HT7 := Lib.hid t7
                clear hmx t6 t7
                have HTr := Lib.hid (ownsRow_setCell_below HTq.out (a := ⟨gO, a, none⟩) (by show gO < wS.heap.size; omega) (.int .i64 (s : Int)))
                have HXr : Hid (IBlk .i64 3 (wq.setCell ⟨gO, a, none⟩ (.int .i64 (s : Int))) gO (Xs.set a (s : Int))) := Lib.hid (HXq.out.set a (s : Int))
                have HBr : Hid (BelowBut wS.heap.size gO wS (wq.setCell ⟨gO, a, none⟩ (.int .i64 (s : Int)))) := Lib.hid (HBq.out.setCell _ _)
                have p4 : (wq.setCell ⟨gO, a, none⟩ (.int .i64 (s : Int))).cell? ⟨wo.heap.size, 1, none⟩ = some (.int .i64 py) := ((HPq.out.far (p := ⟨gO, a, none⟩) hgp2 (.int .i64 (s : Int))).cell 1).trans rfl
                have s4 : (wq.setCell ⟨gO, a, none⟩ (.int .i64 (s : Int))).cell? ⟨gt, s, none⟩ = some (.int .i64 ts) := by rw [own_atS HTr.out HSt.out.1 hsm, ← HTs.out]
                have f4 : (wq.setCell ⟨gO, a, none⟩ (.int .i64 (s : Int))).frozen? ⟨gt, s, none⟩ = false := (own_cell0 HTr.out hsm).2
                have hsz : (wq.setCell ⟨gO, a, none⟩ (.int .i64 (s : Int))).heap.size = wq.heap.size := by simp [World.setCell]
                clear HTq HXq HBq HPq p3
                have HSm := Lib.hid hsm
                have HGt5 := Lib.hid hgt
                clear hgp1 hgp2 hgo1 hlto hgo hltt hgt hs ism hsm
                go_upto_region 19 with fail
                have t7 := HT7.out
                go_wp2_with fail
                have hsm := HSm.out
                have ism : (s : Int) < (m : Int) := by omega
                have hmx := HMx.out
                generalize wq.setCell ⟨gO, a, none⟩ (.int .i64 (s : Int)) = wr2 at *
                go_region
                all_goals
                  go_wp2
                  go_roundw
                  case rel =>
                    have h9 := own_set HTr.out HSm.out (.int .i64 py)
                    rw [← List.map_set] at h9
                    refine ⟨j, (j : Int) - 1, m, _, c6, T.set s py, Xs.set a (s : Int), by omega, by omega, rfl, rfl, HSt2, Lib.hid h9, Lib.hid (HXr.out.far (p := ⟨gt, s, none⟩) HGt.out _), Lib.hid (HBr.out.trans (.of_below (((RowKit.Below.refl wS.heap.size _).setCell (p := ⟨gt, s, none⟩) HGt5.out _).drew)))⟩
                  case measure => simp [intOf]
            · obtain rfl : s = m := by omega
              have t5 : decide ((s : Int) < (s : Int)) = false := decide_eq_false (by omega)
              have t7 : ((s : Int) == (s : Int)) = true := beq_iff_eq.2 rfl
              have HSn := Lib.hid (HSt.out.push HOrd.out hjn hn1 HNe.out (fun q hq => by rw [← HPy.out]; exact HG.out q hq))
              rw [← HPy.out, ← HA.out] at HSn
              go_wp2_with fail
              go_quiet (fail)
              have HXq : Hid (IBlk .i64 3 ((wt.drewN d).drewN nq) gO Xs) := Lib.hid HXt.out
              have HTq : Hid (((wt.drewN d).drewN nq).ownsRow wS.heap.size 3 1 (.slice A6 s c6) s (T.map (Value.int .i64))) := Lib.hid HTt.out
              have HBq : Hid (BelowBut wS.heap.size gO wS ((wt.drewN d).drewN nq)) := Lib.hid (HBt.out.trans ⟨rfl, rfl, rfl, Nat.le_refl _, fun _ _ _ => rfl⟩)
              have HPq : Hid (Blk ((wt.drewN d).drewN nq) wo.heap.size 32 #[.int .i64 px, .int .i64 py, .int .i64 pz]) := Lib.hid HPt2.out
              have o3 : ((wt.drewN d).drewN nq).cell? ⟨go, j, none⟩ = some (.int .i64 (a : Int)) := o1
              have p3 : ((wt.drewN d).drewN nq).cell? ⟨wo.heap.size, 1, none⟩ = some (.int .i64 py) := p1t
              have x3 : ((wt.drewN d).drewN nq).cell? ⟨gO, a, none⟩ = some (.int .i64 (Xs.getD a 0)) := HXt.out.cell (by rw [HSt.out.2.2.1]; exact ha)
              have f3 : ((wt.drewN d).drewN nq).frozen? ⟨gO, a, none⟩ = false := HXt.out.frozen a
              have hzq : wo.heap.size < ((wt.drewN d).drewN nq).heap.size := hzt
              have hgp1 : gO ≠ wo.heap.size := by omega
              have hgp2 : wo.heap.size ≠ gO := by omega
              have hgo1 : go ≠ gO := by omega
              clear HXt HTt HBt HPt2 o1 p1t hzt
              generalize (wt.drewN d).drewN nq = wq at *
              have HTs := Lib.hid (ownsRow_setCell_below HTq.out (a := ⟨gO, a, none⟩) (by show gO < wS.heap.size; omega) (.int .i64 (s : Int)))
              have hsz : (wq.setCell ⟨gO, a, none⟩ (.int .i64 (s : Int))).heap.size = wq.heap.size := by simp [World.setCell]
              have HXr : Hid (IBlk .i64 3 (wq.setCell ⟨gO, a, none⟩ (.int .i64 (s : Int))) gO (Xs.set a (s : Int))) := Lib.hid (HXq.out.set a (s : Int))
              have HBr : Hid (BelowBut wS.heap.size gO wS (wq.setCell ⟨gO, a, none⟩ (.int .i64 (s : Int)))) := Lib.hid (HBq.out.setCell _ _)
              have p4 : (wq.setCell ⟨gO, a, none⟩ (.int .i64 (s : Int))).cell? ⟨wo.heap.size, 1, none⟩ = some (.int .i64 py) := ((HPq.out.far (p := ⟨gO, a, none⟩) hgp2 (.int .i64 (s : Int))).cell 1).trans rfl
              clear HTq HXq HBq HPq p3
              go_wp2_with (at_builtin; refine wpList_pushD el_int rfl _ _ rfl wS.heap.size _ s _ (HTs.out.alloc _) rfl (wq.setCell ⟨gO, a, none⟩ (.int .i64 (s : Int))).heap.size 1 _ (by first | rfl | (rw [hsz]; rfl)) (new_cell rfl) rfl (by omega) (by omega) (by rw [World.size_alloc, hsz]; omega) ?_; intro v5 w5 hown5 hg5 hl5; have HO5 := Lib.hid hown5; have HG5 := Lib.hid hg5; obtain ⟨A7, c7, rfl⟩ := own_shape hown5; clear hown5 hg5 hl5)
              go_roundw
              case rel =>
                refine ⟨j, (j : Int) - 1, s + 1, A7, c7, T ++ [py], Xs.set a (s : Int), by omega, by omega, rfl, rfl, HSn, Lib.hid (by rw [List.map_append]; exact HO5.out), Lib.hid ((HXr.out.alloc _).grown HG5.out (fun e => own_ne HTs.out (show gO < wS.heap.size by omega) e.symm)), Lib.hid (HBr.out.trans (.of_below (below_push ((RowKit.Below.refl wS.heap.size _).alloc (by rw [hsz]; omega) _) (HTs.out.alloc _) (Nat.le_refl _) (by rw [World.size_alloc, hsz]; omega) HG5.out)))⟩
              case measure => simp [intOf]
end Go.Proofs.YtnkflafkalmnmaaDoor
