/-
  Contract of the reference's WaveMake: level by level, each sorted by a bit with its order kept. Conditions: the arguments can be read as data.
-/
import Derived.Test.YtjnndbllaplkcaaWaveMake
import Derived.Test.YtjnndbllaplkcaaSliceStable
namespace Go.Proofs.Ytjnndbllaplkcaa
open Go Go.RowKit Go.Dam Go.Dam.Stable
set_option linter.unusedVariables false
theorem ltK_q (k : Nat) (q : Int) (hq : (2 : Int) ^ k = q) (x y : Int) : ltK k x y = decide (x / q % 2 < y / q % 2) := by unfold ltK; rw [hq]
set_option maxHeartbeats 1000000 in
theorem waveLess_any (k : Nat) (q : Int) (hq : (2 : Int) ^ k = q) (hq0 : 1 ≤ q) (hq1 : q ≤ 1048576) (W : World) (nb pb g c n : Nat) (l' : List Int) (kn : W.cell? ⟨nb, 0, none⟩ = some (.slice (some ⟨g, 0, none⟩) n c)) (hc : ∀ j, j < n → W.cell? ⟨g, j, none⟩ = some (.int .i64 (l'.getD j 0)))
    (kp : W.cell? ⟨pb, 0, none⟩ = some (.int .i64 q)) (hok : ∀ j, j < n → 0 ≤ l'.getD j 0 ∧ l'.getD j 0 < 2097152) (i j : Nat) (hi : i < n) (hj : j < n) (hn : n ≤ 300) :
    Calls Try.prog 45 #[.int .i64 i, .int .i64 j, .pointer (some ⟨nb, 0, none⟩), .pointer (some ⟨pb, 0, none⟩)] W fun e w' => e = .returned (.bool (ltK k (l'.getD i 0) (l'.getD j 0))) ∧ ∃ q, w' = W.drewN q := by
  have ci := hc i hi
  have cj := hc j hj
  obtain ⟨x1, x2⟩ := hok i hi
  obtain ⟨y1, y2⟩ := hok j hj
  rw [ltK_q k q hq]
  generalize l'.getD i 0 = x at *
  generalize l'.getD j 0 = y at *
  clear hc hok hq
  have a1 : 0 ≤ x / q := Int.ediv_nonneg x1 (by omega)
  have a2 : 0 ≤ y / q := Int.ediv_nonneg y1 (by omega)
  have a3 := Int.ediv_le_self q x1
  have a4 := Int.ediv_le_self q y1
  go_enter Try.func45, Try.ntmps45
  go_wp2
  go_quiet (fail)
  go_wp2
  go_ret
  exact ⟨ret_bool rfl, nq, rfl⟩
theorem waveLessAt (k : Nat) (q : Int) (hq : (2 : Int) ^ k = q) (hq0 : 1 ≤ q) (hq1 : q ≤ 1048576) {w : World} {nb pb n c base : Nat} {A : Option Addr} (kn : w.cell? ⟨nb, 0, none⟩ = some (.slice A n c)) (kp : w.cell? ⟨pb, 0, none⟩ = some (.int .i64 q))
    (hnb : some nb ≠ (Value.slice A n c).ownBlock) (hpb : some pb ≠ (Value.slice A n c).ownBlock) (hn : n ≤ 300) : LessAt (fun z => 0 ≤ z ∧ z < 2097152) 45 #[.pointer (some ⟨nb, 0, none⟩), .pointer (some ⟨pb, 0, none⟩)] (ltK k) base n (.slice A n c) w := by
  intro W l' hl hok hown hg i j hi hj
  obtain ⟨g, cap, hv, _, _⟩ := hown.form (by omega)
  obtain ⟨rfl, rfl⟩ : A = some ⟨g, 0, none⟩ ∧ c = cap := by injection hv with a b c; exact ⟨a, c⟩
  refine waveLess_any k q hq hq0 hq1 W nb pb g c n l' ?_ (fun j hj => ?_) ?_ (fun j hj => ?_) i j hi hj hn
  · rw [hg.cell_far ⟨nb, 0, none⟩ (cell_lt kn) hnb]; exact kn
  · rw [hown.cellAt j (by omega), List.getElem?_map, List.getElem?_eq_getElem (by omega), List.getD_eq_getElem?_getD, List.getElem?_eq_getElem (by omega)]; rfl
  · rw [hg.cell_far ⟨pb, 0, none⟩ (cell_lt kp) hpb]; exact kp
  · exact hok _ (getD_in l' (by omega))
/-- While the reference makes the levels. -/
def RefSt (w : World) (vb nb : Nat) (l : List Int) (L t t' : Nat) (sv nv : Value) (ss : List Value) (wr : World) : Prop :=
  Blk wr w.heap.size 25 #[.slice none 0 0] ∧ Blk wr vb 25 #[sv] ∧ Blk wr nb 22 #[nv] ∧ w.heap.size < vb ∧ wr.ownsRow w.heap.size 32 2 sv t (lvCells l.length ss) ∧
  OwnWs 82 wr w.heap.size ss (levsK L l t) ∧ wr.ownsRow w.heap.size 3 1 nv l.length ((nowK L l t').map (Value.int .i64)) ∧ Below w.heap.size w wr
section
variable {w wr w2 : World} {vb nb L t t' : Nat} {l : List Int} {sv nv sv' s : Value} {ss : List Value} {ws : List Nat}
theorem RefSt.alloc (h : RefSt w vb nb l L t t' sv nv ss wr) (o : Obj) : RefSt w vb nb l L t t' sv nv ss (wr.alloc o) := by
  obtain ⟨h1, h2, h3, h4, h5, h6, h7, h8⟩ := h
  exact ⟨h1.alloc o, h2.alloc o, h3.alloc o, h4, h5.alloc o, h6.alloc o, h7.alloc o, h8.alloc h8.size o⟩
theorem RefSt.below (h : RefSt w vb nb l L t t' sv nv ss wr) (hb : Below wr.heap.size wr w2) : RefSt w vb nb l L t t' sv nv ss w2 := by
  obtain ⟨h1, h2, h3, h4, h5, h6, h7, h8⟩ := h
  exact ⟨h1.below hb h1.lt, h2.below hb h2.lt, h3.below hb h3.lt, h4, own_size h5 hb, h6.below hb, own_size h7 hb, h8.trans (hb.mono h8.size)⟩
theorem RefSt.old (h : RefSt w vb nb l L t t' sv nv ss wr) (hg : wr.grownBy w2 sv.ownBlock) : w2.cell? ⟨vb, 0, none⟩ = some sv ∧ w2.frozen? ⟨vb, 0, none⟩ = false ∧ w2.cell? ⟨nb, 0, none⟩ = some nv := by
  have b2 := h.2.1.grown hg (own_ne_blk h.2.2.2.2.1 h.2.1 (by decide))
  have b3 := h.2.2.1.grown hg (own_ne_blk h.2.2.2.2.1 h.2.2.1 (by decide))
  exact ⟨(b2.cell 0).trans rfl, b2.frozen 0, (b3.cell 0).trans rfl⟩
theorem RefSt.level (h : RefSt w vb nb l L t t' sv nv ss wr) (hws : ws = wordsK L l t) {base' : Nat} (hb' : w.heap.size ≤ base') (ho' : OwnWords wr base' s ws)
    (ho : w2.ownsRow w.heap.size 32 2 sv' (t + 1) (lvCells l.length ss ++ [.int .i64 l.length, s])) (hg : wr.grownBy w2 sv.ownBlock) : RefSt w vb nb l L (t + 1) t' sv' nv (ss ++ [s]) (w2.setCell ⟨vb, 0, none⟩ sv') := by
  obtain ⟨h1, h2, h3, h4, h5, h6, h7, h8⟩ := h
  have b2 := h2.grown hg (own_ne_blk h5 h2 (by decide))
  have b3 := h3.grown hg (own_ne_blk h5 h3 (by decide))
  have ow : w2.ownsRow w.heap.size 82 1 s ws.length (ws.map wordV) := Go.Joins.ownsRow_le ((own_apart h5 ho'.1 (by decide)).kept hg ho'.1) hb'
  refine ⟨(h1.grown hg (own_ne_blk h5 h1 (by decide))).far (p := ⟨vb, 0, none⟩) (by show w.heap.size ≠ vb; omega) _, b2.set_ 0 sv', b3.far (p := ⟨vb, 0, none⟩) (Blk.ne_ b3 b2 (by decide)) _, h4, ?_, ?_, own_far (p := ⟨vb, 0, none⟩) ((own_apart h5 h7 (by decide)).kept hg h7) b2 (by decide) _, (h8.grown hg h8.size (fun k hk => (h5.lt k hk).1)).setCell (p := ⟨vb, 0, none⟩) (by show w.heap.size ≤ vb; omega) _⟩
  · rw [lvCells_snoc]; exact own_far (p := ⟨vb, 0, none⟩) ho b2 (by decide) _
  · rw [levsK_succ, ← hws]
    exact ((h6.grown h5 (by decide) hg).push ow ho'.2.1 ho'.2.2).far (p := ⟨vb, 0, none⟩) b2 (by decide) _
theorem RefSt.sorted (h : RefSt w vb nb l L t t' sv nv ss wr) {k : Nat} (hk : L - 1 - t' = k) {r : List Int} (hr : StabR (ltK k) (nowK L l t') r) (ho : w2.ownsRow w.heap.size 3 1 nv l.length (r.map (Value.int .i64))) (hg : wr.grownBy w2 nv.ownBlock) : RefSt w vb nb l L t (t' + 1) sv nv ss w2 := by
  obtain ⟨h1, h2, h3, h4, h5, h6, h7, h8⟩ := h
  have e : r = nowK L l (t' + 1) := by rw [nowK_succ, hk]; exact hr.uniq (ltK_weak k) (stab_part k _)
  rw [e] at ho
  exact ⟨h1.grown hg (own_ne_blk h7 h1 (by decide)), h2.grown hg (own_ne_blk h7 h2 (by decide)), h3.grown hg (own_ne_blk h7 h3 (by decide)), h4, (own_apart h7 h5 (by decide)).kept hg h5, h6.grown h7 (by decide) hg, ho, h8.grown hg h8.size (fun k hk => (h7.lt k hk).1)⟩
end
set_option maxRecDepth 100000 in
set_option maxHeartbeats 4000000 in
theorem refWaveMake_any (lv : Int) (v : Value) (l : List Int) (wss : List (List Nat)) (cc : Int) (w : World) (B : Nat) (hB : B ≤ w.heap.size) (h : IsInts .i64 w B v l) (hlv : I64 lv) (hR : WaveMk lv l wss cc) :
    Calls Try.prog 16 #[.int .i64 lv, v] w (GivesWave l.length wss cc w) := by
  obtain ⟨A, c, rfl, hc, hm, hn, hr, hw⟩ := h
  unfold I64 at hlv
  rcases hR with ⟨h1, rfl, rfl⟩ | ⟨h1, h2, rfl, rfl⟩ | ⟨h1, h2, h3, hbad, rfl, rfl⟩ | ⟨h1, h2, h3, hok, rfl, rfl⟩
  · clear hr hw
    go_enter Try.func16, Try.ntmps16
    go_wp2_with fail
    exact bodyPost_ret (v := .tuple #[.agg #[.slice none 0 0], .int .i64 1]) (by simp [results, Try.results16, go_sem]) rfl ⟨_, rfl, rowsB_nil _ _ _, by first | exact (Below.refl _ _).alloc (Nat.le_refl _) _ | exact ((Below.refl _ _).alloc (Nat.le_refl _) _).setCell (p := ⟨w.heap.size, 0, none⟩) (Nat.le_refl _) _⟩
  · clear hr hw
    rcases h2 with h2 | h2
    all_goals
      go_enter Try.func16, Try.ntmps16
      go_wp2_with fail
      exact bodyPost_ret (v := .tuple #[.agg #[.slice none 0 0], .int .i64 2]) (by simp [results, Try.results16, go_sem]) rfl ⟨_, rfl, rowsB_nil _ _ _, by first | exact (Below.refl _ _).alloc (Nat.le_refl _) _ | exact ((Below.refl _ _).alloc (Nat.le_refl _) _).setCell (p := ⟨w.heap.size, 0, none⟩) (Nat.le_refl _) _⟩
  · obtain ⟨L, rfl⟩ := Int.eq_ofNat_of_zero_le h2
    obtain ⟨f, hf, hbadf⟩ := hbad
    rw [Int.toNat_natCast] at hbadf
    have hL : L ≤ 21 := by omega
    have hQb : (2 : Int) ^ L ≤ 2097152 := by
      have := Nat.pow_le_pow_right (show 0 < 2 by decide) hL
      have e : ((2 ^ L : Nat) : Int) = (2 : Int) ^ L := by simp
      omega
    have hQ0 : (1 : Int) ≤ (2 : Int) ^ L := by
      have := Nat.pow_le_pow_right (show 0 < 2 by decide) (Nat.zero_le L)
      have e : ((2 ^ L : Nat) : Int) = (2 : Int) ^ L := by simp
      omega
    have HF : Hid (¬ okZ L (l.getD f 0)) := Lib.hid hbadf
    have HW := Lib.hid hw
    generalize hQ : (2 : Int) ^ L = Q at *
    have HQ := Lib.hid hQ
    clear hbadf hw
    go_enter Try.func16, Try.ntmps16
    go_wp2_with fail
    go_loopw [7, 30] (fun _ iv wr => ∃ i : Nat, i ≤ f ∧ iv = .int .i64 i ∧ Below w.heap.size w wr ∧ Blk wr w.heap.size 25 #[.slice none 0 0]) (fun _ iv _ => f + 1 - (intOf iv).toNat)
    case atStart => exact ⟨0, by omega, rfl, (Below.refl _ _).alloc (Nat.le_refl _) _, Blk.new _ _ _⟩
    case round =>
      obtain ⟨i, hi, rfl, hbel, hblk⟩ := hrel
      obtain ⟨b, off, rfl, hb, hcells⟩ := ints_cells hr (by omega)
      have k0 := (hbel.cell (p := ⟨b, off + i, none⟩) (by simp; omega)).trans (hcells i (by omega))
      have hz := wf_i64 (HW.out _ (getD_in l (by omega)))
      by_cases hok : okZ L (l.getD i 0)
      · have hif : i ≠ f := fun e => HF.out (by rw [← e]; exact hok)
        obtain ⟨o1, o2⟩ := hok
        rw [HQ.out] at o2
        generalize l.getD i 0 = x at *
        have HB := Lib.hid hbel
        have HK := Lib.hid hblk
        have t1 : (0 : Int) < x / Q ↔ False := by
          constructor
          · intro h; have := Int.ediv_eq_zero_of_lt o1 o2; omega
          · exact False.elim
        clear hcells hbel hblk
        go_wp2_with fail
        go_roundw
        case rel => exact ⟨i + 1, by omega, by go_num, HB.out, HK.out⟩
        case measure => simp [intOf]; omega
      · have hbad : l.getD i 0 < 0 ∨ (0 ≤ l.getD i 0 ∧ Q ≤ l.getD i 0) := by
          unfold okZ at hok; rw [HQ.out] at hok; omega
        generalize l.getD i 0 = x at *
        have HB := Lib.hid hbel
        have f0 := hblk.frozen 0
        have c0 : wr.cell? ⟨w.heap.size, 0, none⟩ = some (.slice none 0 0) := by rw [hblk.cell]; rfl
        have c1 : Hid (_ = some (Value.slice none 0 0)) := Lib.hid (((hblk.set_ 0 (.slice none 0 0)).cell 0).trans rfl)
        clear hcells hbel hblk hok
        rcases hbad with hbad | ⟨hb0, hbad⟩
        · go_wp2_with fail
          exact bodyPost_ret (v := .tuple #[.agg #[.slice none 0 0], .int .i64 2]) (by have c1 := c1.out; simp [results, Try.results16, go_sem, c1]) rfl ⟨_, rfl, rowsB_nil _ _ _, (HB.out.setCell (p := ⟨w.heap.size, 0, none⟩) (Nat.le_refl _) _)⟩
        · have t1 : 0 < x / Q := by
            have h1 : Q / Q ≤ x / Q := Int.ediv_le_ediv (by omega) hbad
            rw [Int.ediv_self (by omega)] at h1
            omega
          go_wp2_with fail
          exact bodyPost_ret (v := .tuple #[.agg #[.slice none 0 0], .int .i64 2]) (by have c1 := c1.out; simp [results, Try.results16, go_sem, c1]) rfl ⟨_, rfl, rowsB_nil _ _ _, (HB.out.setCell (p := ⟨w.heap.size, 0, none⟩) (Nat.le_refl _) _)⟩
  · obtain ⟨L, rfl⟩ := Int.eq_ofNat_of_zero_le h2
    rw [Int.toNat_natCast] at hok ⊢
    have hL : L ≤ 21 := by omega
    have hQb : (2 : Int) ^ L ≤ 2097152 := by
      have := Nat.pow_le_pow_right (show 0 < 2 by decide) hL
      have e : ((2 ^ L : Nat) : Int) = (2 : Int) ^ L := by simp
      omega
    have hQ0 : (1 : Int) ≤ (2 : Int) ^ L := by
      have := Nat.pow_le_pow_right (show 0 < 2 by decide) (Nat.zero_le L)
      have e : ((2 ^ L : Nat) : Int) = (2 : Int) ^ L := by simp
      omega
    have HOk : Hid (∀ z ∈ l, 0 ≤ z ∧ z < 2097152) := Lib.hid fun z hz => by
      obtain ⟨j, hj, rfl⟩ := List.mem_iff_getElem.1 hz
      have := hok j hj
      unfold okZ at this
      rw [List.getD_eq_getElem?_getD, List.getElem?_eq_getElem hj] at this
      simp only [Option.getD_some] at this
      omega
    generalize hQ : (2 : Int) ^ L = Q at *
    have HOk2 : Hid (∀ j, j < l.length → 0 ≤ l.getD j 0 ∧ l.getD j 0 < Q) := Lib.hid fun j hj => by have := hok j hj; unfold okZ at this; rw [hQ] at this; exact this
    clear hok hw
    go_enter Try.func16, Try.ntmps16
    go_wp2_with fail
    go_loopw [7, 30] (fun _ iv wr => ∃ i : Nat, i ≤ l.length ∧ iv = .int .i64 i ∧ Below w.heap.size w wr ∧ Blk wr w.heap.size 25 #[.slice none 0 0]) (fun _ iv _ => l.length - (intOf iv).toNat)
    case atStart => exact ⟨0, by omega, rfl, (Below.refl _ _).alloc (Nat.le_refl _) _, Blk.new _ _ _⟩
    case round =>
      obtain ⟨i, hi, rfl, hbel, hblk⟩ := hrel
      by_cases hlt : i < l.length
      · obtain ⟨b, off, rfl, hb, hcells⟩ := ints_cells hr (by omega)
        have k0 := (hbel.cell (p := ⟨b, off + i, none⟩) (by simp; omega)).trans (hcells i (by omega))
        obtain ⟨o1, o2⟩ := HOk2.out i hlt
        generalize l.getD i 0 = x at *
        have HB := Lib.hid hbel
        have HK := Lib.hid hblk
        have t1 : (0 : Int) < x / Q ↔ False := by
          constructor
          · intro h; have := Int.ediv_eq_zero_of_lt o1 o2; omega
          · exact False.elim
        clear hcells hbel hblk
        go_wp2_with fail
        go_roundw
        case rel => exact ⟨i + 1, by omega, by go_num, HB.out, HK.out⟩
        case measure => simp [intOf]; omega
      · obtain rfl : i = l.length := by omega
        have HB := Lib.hid hbel
        have HK := Lib.hid hblk
        have hzz := hbel.size
        have hbl := hblk.lt
        have HRd := Lib.hid ((hr.below (hbel.mono hB)).alloc (by omega) (.cells #[.slice none 0 0] 25))
        clear hbel hblk hQ hr
        obtain ⟨wo, rfl⟩ : ∃ wo : World, wo = wr := ⟨_, rfl⟩
        go_wp2_with (at_builtin; refine wpList_copyReads el_int rfl _ _ rfl rfl B A l.length c _ HRd.out rfl (fun y hy => by obtain ⟨z, _, rfl⟩ := List.mem_map.1 hy; rfl) (by omega) (by omega) ?_; intro v2 w2 hown2 hg2; have HO2 := Lib.hid hown2; have HG2 := Lib.hid hg2; obtain ⟨A2, c2, rfl⟩ := own_shape hown2; clear hown2 hg2)
        have hz2 := HG2.out.size
        simp at hz2
        have hb3 := HO2.out
        have HSt : Hid (RefSt w wo.heap.size w2.heap.size l L 0 0 (.slice none 0 0) (.slice A2 l.length c2) [] (w2.alloc (.cells #[.slice A2 l.length c2] 22))) := Lib.hid (by
          refine ⟨((HK.out.alloc _).grown HG2.out (by simp)).alloc _, ((Blk.new _ _ _).grown HG2.out (by simp)).alloc _, Blk.new _ _ _, hbl, by rw [lvCells_nil]; exact World.ownsRow_nil _ _ _ _, by rw [levsK_0]; exact OwnWs.nil _ _ _, ?_, ((HB.out.alloc hzz _).grown HG2.out (by simp; omega) (fun k hk => by cases hk)).alloc (by omega) _⟩
          rw [nowK_0]; exact (Go.Joins.ownsRow_le HO2.out (by simp; omega)).alloc _)
        clear HB HK HRd HO2 HG2 HOk2 hb3
        obtain ⟨wn, hwn⟩ : ∃ wn : Nat, wn = w2.heap.size := ⟨_, rfl⟩
        rw [← hwn] at HSt ⊢
        generalize w2.alloc (.cells #[.slice A2 l.length c2] 22) = w3 at *
        clear hwn hz2
        go_loopw [10] (fun kv wr => ∃ (t : Nat) (sv : Value) (ss : List Value), t ≤ L ∧ kv = .int .i64 t ∧ RefSt w wo.heap.size wn l L t t sv (.slice A2 l.length c2) ss wr) (fun kv _ => L - (intOf kv).toNat)
        case atStart => exact ⟨0, _, _, by omega, rfl, HSt.out⟩
        case round =>
          obtain ⟨t, sv, ss, ht, rfl, hst⟩ := hrel
          have HSt := Lib.hid hst
          have hbel := hst.2.2.2.2.2.2.2
          have hz3 := hbel.size
          have hvb := hst.2.1.lt
          have hnb := hst.2.2.1.lt
          by_cases hlt : t < L
          · have hnow := hst.2.2.2.2.2.2.1
            have hml : (nowK L l t).length = l.length := nowK_len L l t
            have HMem : Hid (∀ z ∈ nowK L l t, 0 ≤ z ∧ z < 2097152) := Lib.hid fun z hz => HOk.out z (nowK_mem t hz)
            have c9 : ∀ o, (wr.alloc o).cell? ⟨wn, 0, none⟩ = some (.slice A2 l.length c2) := fun o => ((HSt.out.alloc o).2.2.1.cell 0).trans rfl
            generalize hm' : nowK L l t = m at *
            have HM := Lib.hid hm'
            obtain ⟨k, ek⟩ : ∃ k : Nat, (L : Int) - 1 - t = k := ⟨L - 1 - t, by omega⟩
            have hkL : L - 1 - t = k := by omega
            have HKL := Lib.hid hkL
            have hk20 : k ≤ 20 := by omega
            have hpb : (2 : Int) ^ k ≤ 1048576 := by
              have := Nat.pow_le_pow_right (show 0 < 2 by decide) hk20
              have e : ((2 ^ k : Nat) : Int) = (2 : Int) ^ k := by simp
              omega
            have hp0 : (1 : Int) ≤ (2 : Int) ^ k := by
              have := Nat.pow_le_pow_right (show 0 < 2 by decide) (Nat.zero_le k)
              have e : ((2 ^ k : Nat) : Int) = (2 : Int) ^ k := by simp
              omega
            generalize hq : (2 : Int) ^ k = q at *
            have HQq := Lib.hid hq
            clear hst hbel hnow hm' hkL
            go_wp2_with fail
            obtain ⟨wq, rfl⟩ : ∃ wq : World, wq = wr := ⟨_, rfl⟩
            have HS1 := Lib.hid (HSt.out.alloc (.cells #[.int .i64 q] 3))
            have HP1 : Hid (Blk (wq.alloc (.cells #[.int .i64 q] 3)) wq.heap.size 3 #[.int .i64 q]) := Lib.hid (Blk.new _ _ _)
            have hW1 : wq.heap.size + 1 ≤ (wq.alloc (.cells #[.int .i64 q] 3)).heap.size := by simp
            have HNe : Hid (some wq.heap.size ≠ (Value.slice A2 l.length c2).ownBlock) := Lib.hid fun e => absurd (HSt.out.2.2.2.2.2.2.1.lt _ e.symm).2 (Nat.lt_irrefl _)
            clear c9
            generalize wq.alloc (.cells #[.int .i64 q] 3) = W1 at *
            go_loopw [12, 14, 58] (fun rv _ iv w4 => ∃ i : Nat, i ≤ l.length ∧ iv = .int .i64 i ∧ w4.ownsRow W1.heap.size 4 1 rv i (((bitsK k m).take i).map Value.bool) ∧ Below W1.heap.size W1 w4) (fun _ _ iv _ => l.length - (intOf iv).toNat)
            case atStart => exact ⟨0, by omega, rfl, World.ownsRow_nil _ _ _ _, Below.refl _ _⟩
            case round =>
              obtain ⟨i, hi, rfl, hrow, hbel⟩ := hrel
              have hz6 := hbel.size
              obtain ⟨A5, c5, rfl⟩ := own_shape hrow
              have HRow := Lib.hid hrow
              have HBe := Lib.hid hbel
              have HSr := Lib.hid (HS1.out.below hbel)
              have HPr := Lib.hid (HP1.out.below hbel HP1.out.lt)
              by_cases hlt2 : i < l.length
              · have hnow := HSr.out.2.2.2.2.2.2.1
                obtain ⟨g, cap4, hv, _, _⟩ := hnow.form (by omega)
                obtain ⟨rfl, rfl⟩ : A2 = some ⟨g, 0, none⟩ ∧ c2 = cap4 := by injection hv with a b c; exact ⟨a, c⟩
                have k0 : wr.cell? ⟨g, i, none⟩ = some (.int .i64 (m.getD i 0)) := by
                  rw [hnow.cellAt i (by omega), HM.out]
                  rw [List.getElem?_map, List.getElem?_eq_getElem (by omega), List.getD_eq_getElem?_getD, List.getElem?_eq_getElem (by omega)]; rfl
                have kp : wr.cell? ⟨wq.heap.size, 0, none⟩ = some (.int .i64 q) := (HPr.out.cell 0).trans rfl
                have hxx := HMem.out (m.getD i 0) (getD_in m (by omega))
                have hdv : 0 ≤ m.getD i 0 / q := Int.ediv_nonneg hxx.1 (by omega)
                have hdv2 := Int.ediv_le_self q hxx.1
                have HTk : Hid ((bitsK k m).take (i + 1) = (bitsK k m).take i ++ [bitK k (m.getD i 0)]) := Lib.hid (by
                  rw [List.take_add_one, bitsK_at (by omega)]; rfl)
                have eb : ((m.getD i 0 / q % 2) == 1) = bitK k (m.getD i 0) := by
                  unfold bitK; rw [HQq.out, Bool.eq_iff_iff]; simp
                generalize bitK k (m.getD i 0) = b at *
                generalize m.getD i 0 = x at *
                clear hrow hbel hnow hv
                go_wp2_with (at_builtin; refine wpList_pushD el_bool rfl (.tmp 62) (.tmp 68) rfl W1.heap.size _ i _ (HRow.out.alloc _) rfl wr.heap.size 1 _ rfl (new_cell rfl) rfl (by omega) (by omega) (by simp; omega) ?_; intro v5 w5 hown5 hg5 hl5)
                go_roundw
                case rel => exact ⟨i + 1, by omega, by go_num, by rw [HTk.out, List.map_append]; exact hown5, below_push (HBe.out.alloc hz6 _) (HRow.out.alloc _) (Nat.le_refl _) (by simp; omega) hg5⟩
                case measure => simp [intOf]; omega
              · obtain rfl : i = l.length := by omega
                have hbl : (bitsK k m).length = l.length := by rw [bitsK_len]; exact hml
                have hrow2 : wr.ownsRow W1.heap.size 4 1 (.slice A5 l.length c5) l.length ((bitsK k m).map Value.bool) := by
                  rw [List.take_of_length_le (by omega)] at hrow; exact hrow
                have HMk := Lib.hid (refMakeO_any _ _ wr _ (Nat.le_refl _) (own_bools hrow2 (by omega)) (by omega))
                have HWs : Hid (packW (bitsK k m) ((l.length + 63) / 64) l.length = wordsK L l t) := Lib.hid (by
                  unfold wordsK; rw [HKL.out, HM.out])
                rw [hbl] at HMk
                obtain ⟨A9, c9, rfl⟩ := own_shape HSr.out.2.2.2.2.1
                have hvw := HSr.out.2.1.lt
                have hnw := HSr.out.2.2.1.lt
                have hsz := HSr.out.2.2.2.2.2.2.2.size
                clear hrow hbel hrow2 hbl ek
                generalize packW (bitsK k m) ((l.length + 63) / 64) l.length = ws at *
                go_wp2_with (first
                  | (go_at_call 43; refine (HMk.out).mono ?_; rintro e w4 ⟨s4, rfl, how4, hb4⟩; have HOw4 := Lib.hid how4; have HA4 := Lib.hid (HSr.out.below hb4); have HP4 := Lib.hid (HPr.out.below hb4 HPr.out.lt); have hz4 := hb4.size; have c4 : ∀ o, (w4.alloc o).cell? ⟨wo.heap.size, 0, none⟩ = some (.slice A9 t c9) := fun o => ((HA4.out.alloc o).2.1.cell 0).trans rfl; obtain ⟨A8, c8, rfl⟩ := own_shape how4.1; have HA5 := Lib.hid ((HA4.out.alloc (.cells #[.int .i64 l.length, .slice A8 ws.length c8] 32)).alloc (.cells #[.int .i64 l.length, .slice A8 ws.length c8] 32)); have HP5 := Lib.hid ((HP4.out.alloc (.cells #[.int .i64 l.length, .slice A8 ws.length c8] 32)).alloc (.cells #[.int .i64 l.length, .slice A8 ws.length c8] 32)); have HOw5 := Lib.hid ((HOw4.out.alloc (.cells #[.int .i64 l.length, .slice A8 ws.length c8] 32)).alloc (.cells #[.int .i64 l.length, .slice A8 ws.length c8] 32)); clear how4 hb4)
                  | (at_builtin; refine wpList_pushM el_lv rfl (.tmp 77) (.tmp 79) rfl w.heap.size _ t _ HA5.out.2.2.2.2.1 rfl ⟨w4.heap.size + 1, 0, none⟩ 1 1 [.int .i64 l.length, .slice A8 ws.length c8] rfl rfl (cells_new (by simp)) (by intro u hu; simp at hu; rcases hu with rfl | rfl <;> rfl) (by omega) (by omega) (by simp; omega) ?_; intro v6 w6 hown6 hg6 hl6; obtain ⟨A10, c10, rfl⟩ := own_shape hown6; have HLv := Lib.hid (RefSt.level HA5.out HWs.out hsz HOw5.out hown6 hg6); have HP6 := Lib.hid (HP5.out.grown hg6 (own_ne_blk HA5.out.2.2.2.2.1 HP5.out (by decide))); obtain ⟨x1, x2, x3⟩ := HA5.out.old hg6; have x4 : (w6.setCell ⟨wo.heap.size, 0, none⟩ (.slice A10 (t + 1) c10)).cell? ⟨wn, 0, none⟩ = some (.slice A2 l.length c2) := (HLv.out.2.2.1.cell 0).trans rfl; have hz6' := hg6.size; clear hown6 hg6 hl6)
                  | (go_at_call 44; refine (sliceStable_own HLv.out.2.2.2.2.2.2.1 (by omega) (fun z => 0 ≤ z ∧ z < 2097152) (by rw [HM.out]; exact HMem.out) (ltK k) (ltK_weak k) 45 #[.pointer (some ⟨wn, 0, none⟩), .pointer (some ⟨wq.heap.size, 0, none⟩)] (enters_of Try.func45 (by kernel_rfl) rfl) (waveLessAt k q HQq.out hp0 hpb ((HLv.out.2.2.1.cell 0).trans rfl) (((HP6.out.far (p := ⟨wo.heap.size, 0, none⟩) (by show wq.heap.size ≠ wo.heap.size; omega) _).cell 0).trans rfl) (own_ne_blk HLv.out.2.2.2.2.2.2.1 HLv.out.2.2.1 (by decide)) HNe.out (by omega))).mono ?_; rintro e w8 ⟨rfl, r, hr8, hown8, hg8⟩; have HDn := Lib.hid (HLv.out.sorted HKL.out (by rw [HM.out] at *; exact hr8) hown8 hg8); clear hr8 hown8 hg8))
                go_roundw
                case rel => exact ⟨t + 1, _, _, by omega, by go_num, HDn.out⟩
                case measure => simp [intOf]; omega
          · obtain rfl : t = L := by omega
            have t0 : decide (t < t) = false := by simp
            obtain ⟨hb1, hb2, _, hb3, hsv, hows, _, _⟩ := hst
            obtain ⟨A9, c9, rfl⟩ := own_shape hsv
            have c4 : wr.cell? ⟨wo.heap.size, 0, none⟩ = some (.slice A9 t c9) := (hb2.cell 0).trans rfl
            have c5 : wr.cell? ⟨w.heap.size, 0, none⟩ = some (.slice none 0 0) := (hb1.cell 0).trans rfl
            have f5 := hb1.frozen 0
            have c1 : Hid (_ = some (Value.slice A9 t c9)) := Lib.hid (((hb1.set_ 0 (.slice A9 t c9)).cell 0).trans rfl)
            have HRows := Lib.hid (rowsB_own (n := l.length) (by unfold I64; omega) (own_far (p := ⟨w.heap.size, 0, none⟩) hsv hb1 (by decide) (.slice A9 t c9)) (levsK_len _ _ _) (by omega) (hows.far (p := ⟨w.heap.size, 0, none⟩) hb1 (by decide) (.slice A9 t c9)))
            have HBe := Lib.hid (hbel.setCell (p := ⟨w.heap.size, 0, none⟩) (Nat.le_refl _) (.slice A9 t c9))
            clear hb1 hb2 hsv hows hbel
            go_wp2_with fail
            exact bodyPost_ret (v := .tuple #[.agg #[.slice A9 t c9], .int .i64 0]) (by have c1 := c1.out; simp [results, Try.results16, go_sem, c1]) rfl ⟨_, rfl, HRows.out, HBe.out⟩
end Go.Proofs.Ytjnndbllaplkcaa
