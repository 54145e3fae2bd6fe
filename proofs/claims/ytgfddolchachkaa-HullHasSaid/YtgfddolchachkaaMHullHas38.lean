/-
  Contracts of the reference's hullHas and HullHas: are the corners the same with one point more. Conditions: the points can be read as data.
-/
import Derived.Test.YtgfddolchachkaaMHullHas37
namespace Go.Proofs.Ytgfddolchachkaa
open Go Go.RowKit Go.Dam Go.Dam.Hull
set_option linter.unusedVariables false
theorem el_pt : El Try.prog 45 101 (.agg #[.int .i64 0, .int .i64 0, .int .i64 0]) 3 24 := ⟨Try.underlying45, by kernel_rfl, rfl, by decide⟩
theorem three_news {W : World} {g : Nat} {a b d : Value} {t : TypeId} (h : Blk W g t #[a, b, d]) : ∀ j u, [a, b, d][j]? = some u → W.cell? ((⟨g, 0, none⟩ : Addr).add j) = some u := fun j u hu => by
  rw [add_zero_addr, h.cell j, ← hu]; simp
theorem three_ones {a b d : Int} : ∀ u ∈ [Value.int .i64 a, .int .i64 b, .int .i64 d], u.oneCell' = true := fun u hu => by
  simp at hu; rcases hu with rfl | rfl | rfl <;> rfl
theorem flat_news {W : World} {bk off n : Nat} {l : List Int} (hl : l.length = n * 3) (h : ∀ j, j < n * 3 → W.cell? ⟨bk, off + j, none⟩ = some (.int .i64 (l.getD j 0))) : ∀ j u, (l.map (Value.int .i64))[j]? = some u → W.cell? ((⟨bk, off, none⟩ : Addr).add j) = some u := fun j u hu => by
  have hj : j < l.length := by
    rcases Nat.lt_or_ge j l.length with c | c
    · exact c
    · rw [List.getElem?_eq_none (by simpa using c)] at hu; cases hu
  have e : (⟨bk, off, none⟩ : Addr).add j = ⟨bk, off + j, none⟩ := by unfold Addr.add; split <;> simp_all
  rw [e, h j (by omega), ← hu]
  simp [List.getD, hj]
theorem own_pts {w : World} {base g n c : Nat} {l : List Int} (h : w.ownsRow base 101 3 (.slice (some ⟨g, 0, none⟩) n c) n (l.map (Value.int .i64))) : ∀ j, j < n * 3 → w.cell? ⟨g, 0 + j, none⟩ = some (.int .i64 (l.getD j 0)) := fun j hj => by
  have hl : l.length = n * 3 := by have := h.1; simpa using this
  have := h.cells (g := g) rfl j (.int .i64 (l.getD j 0)) (by simp [List.getD, show j < l.length by omega])
  rw [add_zero_addr] at this
  rw [Nat.zero_add]
  exact this
set_option maxRecDepth 100000 in
set_option maxHeartbeats 8000000 in
theorem refHullHas0_any (n c bk off : Nat) (l : List Int) (x y : Int) (r : Bool) (H K : List Nat) (w : World) (hn0 : 0 < n) (hn : n ≤ 150) (hll : l.length = n * 3) (hbk : bk < w.heap.size)
    (hco : ∀ i, i < n → okC (l.getD (i * 3) 0) ∧ okC (l.getD (i * 3 + 1) 0)) (hx : okC x) (hy : okC y)
    (hH : HullIs (ptF l) n H) (hHl : H.length ≤ 300) (hK : HullIs (ptF (l ++ [x, y, 0])) (n + 1) K) (hKl : K.length ≤ 400) (hs : r = true ↔ Same (ptF l) (ptF (l ++ [x, y, 0])) H K)
    (hcs : ∀ j, j < n * 3 → w.cell? ⟨bk, off + j, none⟩ = some (.int .i64 (l.getD j 0))) :
    Calls Try.prog 74 #[.slice (some ⟨bk, off, none⟩) n c, .int .i64 x, .int .i64 y] w fun e w' => e = .returned (.bool r) ∧ Below w.heap.size w w' := by
  have HW1 := Lib.hid (refWrap_any n c bk off l H w hn0 (by omega) hbk hH (by omega) hco hcs)
  obtain ⟨l2, hl2⟩ : ∃ l2, l2 = l ++ [x, y, 0] := ⟨_, rfl⟩
  have hm := okC_more hll hco hx hy
  rw [← hl2] at hK hs hm
  have hl2l : l2.length = (n + 1) * 3 := by rw [hl2]; simp; omega
  have HW2 := Lib.hid fun W g c2 (hg : g < W.heap.size) (h : ∀ j, j < (n + 1) * 3 → W.cell? ⟨g, 0 + j, none⟩ = some (.int .i64 (l2.getD j 0))) => refWrap_any (n + 1) c2 g 0 l2 K W (by omega) (by omega) hg hK (by omega) hm h
  have HCs := Lib.hid hcs
  have HL2 : Hid (l.map (Value.int .i64) ++ [Value.int .i64 x, .int .i64 y, .int .i64 0] = l2.map (Value.int .i64)) := Lib.hid (by rw [hl2]; simp)
  have HLt : Hid (∀ u, u < H.length → H.getD u 0 < n) := Lib.hid (fun u hu => hH.lt hu)
  have HKt : Hid (∀ u, u < K.length → K.getD u 0 < n + 1) := Lib.hid (fun u hu => hK.lt hu)
  have hHp := hH.ne
  have hKp := hK.ne
  have HS := Lib.hid hs
  have HLl := Lib.hid hll
  clear hcs hH hK hs hm hco hl2 hx hy
  go_enter Try.func74, Try.ntmps74
  go_upto_region 4 with (first
    | (go_at_call 66; (with_reducible refine (HW1.out).mono ?_); rintro e w1 ⟨v1, rfl, hown1, hb1⟩; have HB1 := Lib.hid hb1; clear hb1; obtain ⟨gH, cH, rfl, hgb, hgl⟩ := hown1.form (by omega); have HOH := Lib.hid hown1; clear hown1)
    | (at_builtin; refine wpList_pushM el_pt rfl (.const (.slice none 0 0)) (.tmp 13) rfl w1.heap.size (.slice none 0 0) 0 [] (World.ownsRow_nil _ _ _ _) rfl ⟨bk, off, none⟩ n c (l.map (Value.int .i64)) rfl (by simp; omega) (flat_news HLl.out (fun j hj => (HB1.out.cell (p := ⟨bk, off + j, none⟩) hbk).trans (HCs.out j hj))) (by intro u hu; obtain ⟨z, _, rfl⟩ := List.mem_map.1 hu; rfl) (by omega) (by omega) (Nat.le_refl _) ?_; intro v3 w3 hown3 hg3 hl3; rw [Nat.zero_add, List.nil_append] at hown3; have HB3 := Lib.hid (below_push (Below.refl w1.heap.size w1) (World.ownsRow_nil w1 w1.heap.size 101 3) (Nat.le_refl _) (Nat.le_refl _) hg3); have hz3 := HB3.out.size; have HO3 := Lib.hid hown3; clear hown3 hg3 hl3)
    | (at_builtin; refine wpList_pushM el_pt rfl (.tmp 14) (.tmp 18) rfl w1.heap.size _ n _ (HO3.out.alloc _) rfl ⟨w3.heap.size, 0, none⟩ 1 _ [.int .i64 x, .int .i64 y, .int .i64 0] rfl rfl (three_news (Blk.new _ _ _)) three_ones (by omega) (by omega) (by simp; omega) ?_; intro v4 w4 hown4 hg4 hl4; have HB4 := Lib.hid (below_push (HB3.out.alloc hz3 _) (HO3.out.alloc _) (Nat.le_refl _) (by simp; omega) hg4); rw [HL2.out] at hown4; obtain ⟨g4, c4, rfl, hg4b, hg4l⟩ := hown4.form (by omega); have HO4 := Lib.hid hown4; clear hown4 hg4 hl4)
    | (go_at_call 66; refine (HW2.out _ _ _ hg4l (own_pts HO4.out)).mono ?_; rintro e w5 ⟨v5, rfl, hown5, hb5⟩; have HB5 := Lib.hid hb5; clear hb5; obtain ⟨gK, cK, rfl, hgKb, hgKl⟩ := hown5.form (by omega); have HOK := Lib.hid hown5; clear hown5))
  have HB6 := Lib.hid (HB4.out.trans (HB5.out.mono HB4.out.size))
  have HOH5 := Lib.hid (own_size HOH.out HB6.out)
  have HO5 := Lib.hid (own_size HO4.out HB5.out)
  have HB7 := Lib.hid (HB1.out.trans (HB6.out.mono HB1.out.size))
  have hz5 := HB5.out.size
  have hz6 := HB6.out.size
  clear HOH HO4 HB5 HB4 HB3 HO3 HB1 HW1 HW2 hz3 HB6
  by_cases hlen : H.length = K.length
  rotate_left
  · have t0 : ((H.length : Int) != (K.length : Int)) = true := bne_iff_ne.2 (by omega)
    have HR : Hid (false = r) := Lib.hid (by
      cases r with
      | false => rfl
      | true => exact absurd (HS.out.1 rfl).1 hlen)
    clear hlen
    go_wp2
    go_ret
    exact ⟨by rw [← HR.out] <;> rfl, HB7.out⟩
  have t0 : ((H.length : Int) != (K.length : Int)) = false := by simp [hlen]
  have HLen := Lib.hid hlen
  clear hlen
  go_wp2
  go_loopw [10, 29] (fun _ iv wr => ∃ j : Nat, j ≤ H.length ∧ iv = .int .i64 j ∧ Hid (∀ u, u < j → ptF l (H.getD u 0) = ptF l2 (K.getD u 0)) ∧ Hid (Below w5.heap.size w5 wr)) (fun _ iv _ => H.length - (intOf iv).toNat)
  case atStart => exact ⟨0, by omega, rfl, Lib.hid (fun u hu => absurd hu (by omega)), Lib.hid (Below.refl _ _)⟩
  case round =>
    obtain ⟨j, hj, rfl, HU, HB⟩ := hrel
    obtain ⟨wo, rfl⟩ : ∃ wo : World, wo = wr := ⟨_, rfl⟩
    by_cases hlt : j < H.length
    · have hjK : j < K.length := by have := HLen.out; omega
      have t1 : decide ((j : Int) < (H.length : Int)) = true := decide_eq_true (by omega)
      have o1 : wo.cell? ⟨gH, j, none⟩ = some (.int .i64 ((H.getD j 0 : Nat) : Int)) := own_atH (own_size HOH5.out HB.out) rfl hlt
      have o2 : wo.cell? ⟨gK, j, none⟩ = some (.int .i64 ((K.getD j 0 : Nat) : Int)) := own_atH (own_size HOK.out HB.out) rfl hjK
      have han := HLt.out j hlt
      have hbn := HKt.out j hjK
      have hc1 := own_cap HOH5.out
      have hc2 := own_cap HOK.out
      have hc3 := own_cap HO5.out
      obtain ⟨a, ha⟩ : ∃ x, x = H.getD j 0 := ⟨_, rfl⟩
      obtain ⟨b, hb⟩ : ∃ x, x = K.getD j 0 := ⟨_, rfl⟩
      rw [← ha] at o1 han
      rw [← hb] at o2 hbn
      have ps : ∀ q, q < n * 3 → wo.cell? ⟨bk, off + q, none⟩ = some (.int .i64 (l.getD q 0)) := fun q hq => (HB.out.cell (p := ⟨bk, off + q, none⟩) (by show bk < _; have := HB7.out.size; omega)).trans ((HB7.out.cell (p := ⟨bk, off + q, none⟩) hbk).trans (HCs.out q hq))
      have pm : ∀ q, q < (n + 1) * 3 → wo.cell? ⟨g4, q, none⟩ = some (.int .i64 (l2.getD q 0)) := fun q hq => by
        have := own_pts (own_size HO5.out HB.out) q hq
        rwa [Nat.zero_add] at this
      have a0 := ps (a * 3) (by omega)
      have a1 : wo.cell? ⟨bk, off + a * 3 + 1, none⟩ = some (.int .i64 (l.getD (a * 3 + 1) 0)) := ps (a * 3 + 1) (by omega)
      have b0 := pm (b * 3) (by omega)
      have b1 := pm (b * 3 + 1) (by omega)
      have HEq : Hid (ptF l (H.getD j 0) = (l.getD (a * 3) 0, l.getD (a * 3 + 1) 0) ∧ ptF l2 (K.getD j 0) = (l2.getD (b * 3) 0, l2.getD (b * 3 + 1) 0)) := Lib.hid (by rw [← ha, ← hb]; exact ⟨rfl, rfl⟩)
      obtain ⟨xa, hxa⟩ : ∃ x, x = l.getD (a * 3) 0 := ⟨_, rfl⟩
      obtain ⟨ya, hya⟩ : ∃ x, x = l.getD (a * 3 + 1) 0 := ⟨_, rfl⟩
      obtain ⟨xb, hxb⟩ : ∃ x, x = l2.getD (b * 3) 0 := ⟨_, rfl⟩
      obtain ⟨yb, hyb⟩ : ∃ x, x = l2.getD (b * 3 + 1) 0 := ⟨_, rfl⟩
      rw [← hxa, ← hya, ← hxb, ← hyb] at HEq
      rw [← hxa] at a0
      rw [← hya] at a1
      rw [← hxb] at b0
      rw [← hyb] at b1
      clear ps pm ha hb hxa hya hxb hyb
      have na : (a : Int) < (n : Int) := by omega
      have nb : (b : Int) < (n : Int) + 1 := by omega
      have njH : (j : Int) < (H.length : Int) := by omega
      have njK : (j : Int) < (K.length : Int) := by omega
      have HF : Hid (¬ (xa = xb ∧ ya = yb) → false = r) := Lib.hid (fun hne => by
        cases hr : r with
        | false => rfl
        | true =>
          have := (HS.out.1 hr).2 j hlt
          rw [HEq.out.1, HEq.out.2] at this
          injection this with q1 q2
          exact absurd ⟨q1, q2⟩ hne)
      have HTr : Hid (xa = xb ∧ ya = yb → ∀ u, u < j + 1 → ptF l (H.getD u 0) = ptF l2 (K.getD u 0)) := Lib.hid (fun ⟨q1, q2⟩ u hu => by
        by_cases e : u = j
        · rw [e, HEq.out.1, HEq.out.2, q1, q2]
        · exact HU.out u (by omega))
      clear HEq
      by_cases hxe : xa = xb
      · have t2 : (xa != xb) = false := by simp [hxe]
        by_cases hye : ya = yb
        · have t3 : (ya != yb) = false := by simp [hye]
          have HN := Lib.hid (HTr.out ⟨hxe, hye⟩)
          clear hxe hye
          go_wp2_with fail
          go_quiet (fail)
          go_wp2
          go_roundw
          case rel => exact ⟨j + 1, by omega, by go_num, HN, Lib.hid (below_drewN HB.out _)⟩
          case measure => simp [intOf]; omega
        · have t3 : (ya != yb) = true := bne_iff_ne.2 hye
          have HR := Lib.hid (HF.out (fun h => hye h.2))
          clear hxe hye
          go_wp2_with fail
          go_quiet (fail)
          go_wp2
          go_ret
          exact ⟨by rw [← HR.out] <;> rfl, below_drewN (HB7.out.trans (HB.out.mono (by have := HB7.out.size; omega))) _⟩
      · have t2 : (xa != xb) = true := bne_iff_ne.2 hxe
        have HR := Lib.hid (HF.out (fun h => hxe h.1))
        clear hxe
        go_wp2_with fail
        go_quiet (fail)
        go_wp2
        go_ret
        exact ⟨by rw [← HR.out] <;> rfl, below_drewN (HB7.out.trans (HB.out.mono (by have := HB7.out.size; omega))) _⟩
    · obtain rfl : j = H.length := by omega
      have t1 : decide ((H.length : Int) < (H.length : Int)) = false := decide_eq_false (by omega)
      have HR : Hid (true = r) := Lib.hid (HS.out.2 ⟨HLen.out, HU.out⟩).symm
      go_wp2
      go_ret
      exact ⟨by rw [← HR.out] <;> rfl, HB7.out.trans (HB.out.mono (by have := HB7.out.size; omega))⟩
set_option maxHeartbeats 2000000 in
theorem refHullHasT_any (v : Value) (n : Nat) (l : List Int) (x y : Int) (r : Bool) (cc : Int) (w : World) (B : Nat) (hB : B ≤ w.heap.size) (h : IsFlat 3 w B v n l) (hR : HasR n l x y r cc) :
    Calls Try.prog 33 #[v, .int .i64 x, .int .i64 y] w fun e w' => e = .returned (.tuple #[.bool r, .int .i64 cc]) ∧ Below w.heap.size w w' := by
  have HC := Lib.hid (refHullFault_any v n l w B hB h)
  rcases hR with ⟨h0, rfl, rfl⟩ | ⟨h0, h1, rfl, rfl⟩ | ⟨h0, hx, hy, rfl, H, K, hH, hHl, hK, hKl, hs⟩
  · obtain ⟨A, c, rfl, hc, hm, hn, hl, hr, hw⟩ := h
    generalize hullCode n l = cc at *
    have t0 : (cc != 0) = true := by simpa using h0
    clear h0 hl hr hw
    go_enter Try.func33, Try.ntmps33
    go_wp2_with (go_at_call 65; refine (HC.out).mono ?_; rintro e w1 ⟨rfl, hb1⟩)
    go_ret2
    exact ⟨rfl, hb1⟩
  · obtain ⟨A, c, rfl, hc, hm, hn, hl, hr, hw⟩ := h
    rw [h0] at HC
    clear h0 hl hr hw
    cases hx : coordOk x with
    | false =>
      clear h1
      have HX := Lib.hid fun W => coordMay_any x false W hx
      clear hx
      go_enter Try.func33, Try.ntmps33
      go_wp2_with (first
        | (go_at_call 65; refine (HC.out).mono ?_; rintro e w1 ⟨rfl, hb1⟩)
        | (go_at_call 61; refine (HX.out _).mono ?_; rintro e w1 ⟨rfl, rfl⟩))
      go_ret2
      exact ⟨rfl, hb1⟩
    | true =>
      rw [hx, Bool.true_and] at h1
      have HX := Lib.hid fun W => coordMay_any x true W hx
      have HY := Lib.hid fun W => coordMay_any y false W h1
      clear hx h1
      go_enter Try.func33, Try.ntmps33
      go_wp2_with (first
        | (go_at_call 65; refine (HC.out).mono ?_; rintro e w1 ⟨rfl, hb1⟩)
        | (go_at_call 61; (with_reducible refine (HX.out _).mono ?_); rintro e w1 ⟨rfl, rfl⟩)
        | (go_at_call 61; (with_reducible refine (HY.out _).mono ?_); rintro e w1 ⟨rfl, rfl⟩))
      go_ret2
      exact ⟨rfl, hb1⟩
  · rw [h0] at HC
    obtain ⟨g1, g2⟩ := hullCode_ok h0
    obtain ⟨g3, g4⟩ := pt_okC g1
    have HX := Lib.hid fun W => coordMay_any x true W hx
    have HY := Lib.hid fun W => coordMay_any y true W hy
    obtain ⟨A, c, rfl, hc, hm, hn, hl, hr, hw⟩ := h
    obtain ⟨bk, off, rfl, hbk, hcells⟩ := flat_cells hr hl g2 (by omega)
    have HP := Lib.hid fun W (hb : Below w.heap.size w W) => refHullHas0_any n c bk off l x y r H K W g2 g3 hl (by have := hb.size; omega) g4 (coordOk_yes hx) (coordOk_yes hy) hH hHl hK hKl hs (fun j hj => (hb.cell (p := ⟨bk, off + j, none⟩) (by show bk < _; omega)).trans (hcells j hj))
    clear hl hr hw h0 hx hy hs hK hKl hH hHl g1 g4 hcells
    go_enter Try.func33, Try.ntmps33
    go_wp2_with (first
      | (go_at_call 65; refine (HC.out).mono ?_; rintro e w1 ⟨rfl, hb1⟩; have HB1 := Lib.hid hb1; clear hb1)
      | (go_at_call 61; (with_reducible refine (HX.out _).mono ?_); rintro e w1 ⟨rfl, rfl⟩)
      | (go_at_call 61; (with_reducible refine (HY.out _).mono ?_); rintro e w1 ⟨rfl, rfl⟩)
      | (go_at_call 74; refine (HP.out _ HB1.out).mono ?_; rintro e w2 ⟨rfl, hb2⟩; have HB2 := Lib.hid (HB1.out.trans (hb2.mono HB1.out.size)); clear hb2))
    go_ret2
    exact ⟨rfl, HB2.out⟩
end Go.Proofs.Ytgfddolchachkaa
