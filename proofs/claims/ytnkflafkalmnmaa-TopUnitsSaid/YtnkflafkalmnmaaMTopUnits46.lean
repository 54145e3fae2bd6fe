/-
  The walk of the law TopUnits. Conditions: the arguments can be read as data.
-/
import Derived.Test.YtnkflafkalmnmaaMTopUnits42
import Derived.Test.YtnkflafkalmnmaaMTopUnits45
namespace Go.Dam.Klee
open Go Go.RowKit Go.Dam
set_option linter.unusedVariables false
def ptX (ps : List Int) (i : Nat) : Int := ps.getD (i * 3) 0
def ptY (ps : List Int) (i : Nat) : Int := ps.getD (i * 3 + 1) 0
theorem unit_code {ps : List Int} {n : Nat} (hn : n ≤ 31) (h : ∀ i, i < n → (0 ≤ ptX ps i ∧ ptX ps i < 9) ∧ (0 ≤ ptY ps i ∧ ptY ps i < 9)) : rcCode n (unitL (ptX ps) (ptY ps) n) = 0 := by
  refine rcCode_0 (by omega) (anyN_no fun i hi => ?_)
  obtain ⟨e0, e1, e2, e3⟩ := unitL_at (ptX ps) (ptY ps) hi
  have hb := h i hi
  rw [← badRc_eq, e0, e1, e2, e3]
  generalize ptX ps i = x at hb
  generalize ptY ps i = y at hb
  have c1 : coordOk x = true := by simp [coordOk]; omega
  have c2 : coordOk y = true := by simp [coordOk]; omega
  rw [c1, c2]; simp
theorem unitL_wf {ps : List Int} : ∀ {n : Nat}, (∀ i, i < n → (0 ≤ ptX ps i ∧ ptX ps i < 9) ∧ (0 ≤ ptY ps i ∧ ptY ps i < 9)) → ∀ z ∈ unitL (ptX ps) (ptY ps) n, (Lit.int .i64 z).wf = true
  | 0, _, z, hz => by rw [unitL_0] at hz; cases hz
  | n + 1, h, z, hz => by
    rw [unitL_s, List.mem_append] at hz
    rcases hz with hz | hz
    · exact unitL_wf (fun i hi => h i (by omega)) z hz
    · have hb := h n (by omega)
      simp only [List.mem_cons, List.not_mem_nil, or_false] at hz
      exact WalkArith.wf_i64 (by rcases hz with rfl | rfl | rfl | rfl <;> omega)
theorem codesL_wf {ps : List Int} {n : Nat} (h : ∀ i, i < n → 0 ≤ codeN ps i ∧ codeN ps i < 4398046511104) : ∀ z ∈ codesL ps n, (Lit.int .i64 z).wf = true := fun z hz => by
  obtain ⟨i, hi, rfl⟩ := mem_getD hz
  rw [codesL_len] at hi
  rw [codesL_at ps hi]
  have := h i hi
  exact WalkArith.wf_i64 (by omega)
end Go.Dam.Klee
namespace Go.Proofs.Ytnkflafkalmnmaa
open Go Go.RowKit Go.Dam Go.Dam.Klee
set_option linter.unusedVariables false
theorem el_rct : El Try.prog 27 30 (.agg #[.int .i64 0, .int .i64 0, .int .i64 0, .int .i64 0]) 4 32 := ⟨Try.underlying27, by kernel_rfl, rfl, by decide⟩
set_option maxRecDepth 100000 in
set_option maxHeartbeats 8000000 in
theorem topUnits_walk (v : Value) (w : World) (h : ∃ n l, IsFlat 3 w w.heap.size v n l) :
    Calls Try.prog 3 #[v] w fun e w' => e = .returned (.bool true) ∧ Below w.heap.size w w' := by
  obtain ⟨len, l, h⟩ := h
  have HNum := Lib.hid (keepPoints_any v l len 30 9 w _ (Nat.le_refl _) h (by omega) (by omega))
  obtain ⟨n0, hn0⟩ : ∃ n, min len 30 = n := ⟨_, rfl⟩
  rw [hn0] at HNum
  have hn1 : n0 ≤ 30 := by omega
  have HPs := Lib.hid (unitPs_eq l n0)
  have HPl := Lib.hid (unitPs_len l n0)
  have HPw := Lib.hid (unitPs_wf l n0)
  have HPa := Lib.hid (unitPs_at l n0)
  obtain ⟨ps, hps⟩ : ∃ ps, unitPs l n0 = ps := ⟨_, rfl⟩
  rw [hps] at HPs HPl HPw HPa
  obtain ⟨n, hn⟩ : ∃ n, n0 + 1 = n := ⟨_, rfl⟩
  rw [hn] at HPl HPa
  have HN := Lib.hid hn
  have hn31 : 1 ≤ n ∧ n ≤ 31 := by omega
  have HPb : Hid (∀ i, i < n → (0 ≤ ptX ps i ∧ ptX ps i < 9) ∧ (0 ≤ ptY ps i ∧ ptY ps i < 9)) := Lib.hid fun i hi => HPa.out i hi
  have HCb : Hid (∀ i, i < n → 0 ≤ codeN ps i ∧ codeN ps i < 4398046511104) := Lib.hid fun i hi => codeN_bd HPa.out i hi
  have HRc := Lib.hid (unit_code (ps := ps) hn31.2 HPb.out)
  obtain ⟨A, cc, rfl, x1, x2, x3, x4, x5, x6⟩ := h
  clear x4 x5 x6 hn0 hps hn
  go_enter Try.func3, Try.ntmps3
  go_wp2_with (first
    | (go_at_call 4; refine (HNum.out).mono ?_; rintro e w1 ⟨⟨yy, k1, rfl, rfl, hown1⟩, hb1⟩; have HO1 := Lib.hid hown1; obtain ⟨A1, c1, rfl⟩ := own_shape hown1; have hz1 := hb1.size; have HB1 := Lib.hid hb1; clear hown1 hb1)
    | (at_builtin; refine wpList_pushM el_pnt rfl _ _ rfl w.heap.size _ k1 _ (HO1.out.alloc _) rfl ⟨w1.heap.size, 0, none⟩ 1 _ [.int .i64 3, .int .i64 4, .int .i64 0] rfl rfl (tri_news rfl) tri_ones (by omega) (by omega) (by simp; omega) ?_; intro v2 w2 hown2 hg2 hl2; rw [HN.out] at hown2; have HO2 : Hid (w2.ownsRow w.heap.size 26 3 v2 n (ps.map (Value.int .i64))) := Lib.hid (by rw [← HPs.out, List.map_append]; exact hown2); have HB2 := Lib.hid (below_push (HB1.out.alloc hz1 _) (HO1.out.alloc _) (Nat.le_refl _) (by simp; omega) hg2); obtain ⟨A2, c2, rfl⟩ := own_shape HO2.out; clear hown2 hg2 hl2))
  have hz2 := HB2.out.size
  clear HO1 HB1 HNum

  go_loopw [4, 5, 6, 7, 8] (fun rv cv iv _ _ wr => ∃ i : Nat, i ≤ n ∧ iv = .int .i64 i ∧ Hid (wr.ownsRow w2.heap.size 30 4 rv i ((unitL (ptX ps) (ptY ps) i).map (Value.int .i64))) ∧ Hid (wr.ownsRow w2.heap.size 3 1 cv i ((codesL ps i).map (Value.int .i64))) ∧ Hid (Below w2.heap.size w2 wr)) (fun _ _ iv _ _ _ => n - (intOf iv).toNat)
  case atStart => exact ⟨0, by omega, rfl, Lib.hid (by rw [unitL_0]; exact World.ownsRow_nil _ _ _ _), Lib.hid (by rw [codesL_0]; exact World.ownsRow_nil _ _ _ _), Lib.hid (Below.refl _ _)⟩
  case round =>
    obtain ⟨wo, rfl⟩ : ∃ wo : World, wo = wr := ⟨_, rfl⟩
    obtain ⟨i, hi, rfl, HR, HC, HB⟩ := hrel
    obtain ⟨A3, c3, rfl⟩ := own_shape HR.out
    obtain ⟨A4, c4, rfl⟩ := own_shape HC.out
    have hzo := HB.out.size
    have w1i : IntKind.i64.wrap ((i : Int) + 1) = (i : Int) + 1 := by rw [IntKind.wrap_i64]; omega
    by_cases hlt : i < n
    · have t1 : decide ((i : Int) < (n : Int)) = true := decide_eq_true (by omega)
      have HOo := Lib.hid (own_size HO2.out HB.out)
      obtain ⟨gp, po, rfl, hgp, hcells⟩ := flat_cells (Reads.of_own HO2.out) HPl.out (by omega) (by omega)
      have p0 : wo.cell? ⟨gp, po + i * 3, none⟩ = some (.int .i64 (ptX ps i)) := (HB.out.cell (p := ⟨gp, po + i * 3, none⟩) hgp).trans (hcells (i * 3) (by omega))
      have p1 : wo.cell? ⟨gp, po + i * 3 + 1, none⟩ = some (.int .i64 (ptY ps i)) := (HB.out.cell (p := ⟨gp, po + i * 3 + 1, none⟩) hgp).trans (hcells (i * 3 + 1) (by omega))
      have hbd := HPb.out i hlt
      have HUs := Lib.hid (unitL_s (ptX ps) (ptY ps) i)
      have HCs := Lib.hid (codesL_s ps i)
      have HCo : Hid (codeN ps i = ((zipB (ptX ps i).toNat (ptY ps i).toNat 21 : Nat) : Int)) := Lib.hid (by with_unfolding_all rfl)
      obtain ⟨x, hx⟩ : ∃ x, x = ptX ps i := ⟨_, rfl⟩
      obtain ⟨y, hy⟩ : ∃ x, x = ptY ps i := ⟨_, rfl⟩
      obtain ⟨cd, hcd⟩ : ∃ x, x = codeN ps i := ⟨_, rfl⟩
      rw [← hx] at p0 HUs hbd HCo
      rw [← hy] at p1 HUs hbd HCo
      rw [← hcd] at HCs HCo
      have HMc := Lib.hid fun W => code_any x y cd 0 W (.inl ⟨by omega, by omega, by omega, by omega, HCo.out, rfl⟩)
      have hgw : gp < wo.heap.size := by omega
      clear hcells hx hy hcd
      go_wp2_with fail
      have NE : Hid ((Value.slice A3 i c3).ownBlock ≠ some gp) := Lib.hid (own_ne HR.out hgp)
      go_region_held3 (fun w' => w'.cell? ⟨gp, po + i * 3, none⟩ = some (.int .i64 x) ∧ w'.cell? ⟨gp, po + i * 3 + 1, none⟩ = some (.int .i64 y))
        (first
          | exact ⟨p0, p1⟩
          | exact ⟨(World.cell?_alloc_lt wo _ ⟨gp, po + i * 3, none⟩ (by show gp < wo.heap.size; omega)).trans p0, (World.cell?_alloc_lt wo _ ⟨gp, po + i * 3 + 1, none⟩ (by show gp < wo.heap.size; omega)).trans p1⟩
          | exact ⟨(hg3.cell_far _ (by simp; omega) (Ne.symm NE.out)).trans ((World.cell?_alloc_lt wo _ ⟨gp, po + i * 3, none⟩ (by show gp < wo.heap.size; omega)).trans p0), (hg3.cell_far _ (by simp; omega) (Ne.symm NE.out)).trans ((World.cell?_alloc_lt wo _ ⟨gp, po + i * 3 + 1, none⟩ (by show gp < wo.heap.size; omega)).trans p1)⟩)
        (first
          | (refine step_pushM el_rct rfl (.tmp 31) (.tmp 53) rfl w2.heap.size (.slice A3 i c3) i _ ((HR.out.alloc _).drew) (by rfl) ⟨wo.heap.size, 0, none⟩ 1 1 ([x, y, x, y].map (Value.int .i64)) (by rfl) rfl (news_ints rfl) ones_ints (by omega) (by omega) (by simp; omega) ?_; intro v3 w3 hown3 hg3 hl3))
      have HR3 : Hid (w3.ownsRow w2.heap.size 30 4 v3 (i + 1) ((unitL (ptX ps) (ptY ps) (i + 1)).map (Value.int .i64))) := Lib.hid (by rw [HUs.out, List.map_append]; exact hown3)
      have HC3 := Lib.hid ((own_apart HR.out HC.out (by decide)).kept hg3 ((HC.out.alloc _).drew))
      have HB3 : Hid (Below w2.heap.size w2 w3) := Lib.hid (below_push ((HB.out.alloc hzo _).drew) ((HR.out.alloc _).drew) (Nat.le_refl _) (by show w2.heap.size ≤ (wo.alloc _).heap.size; simp; omega) hg3)
      have q0 : w3.cell? ⟨gp, po + i * 3, none⟩ = some (.int .i64 x) := (hg3.cell_far _ (by simp; omega) (Ne.symm NE.out)).trans ((World.cell?_alloc_lt wo _ ⟨gp, po + i * 3, none⟩ (by show gp < wo.heap.size; omega)).trans p0)
      have q1 : w3.cell? ⟨gp, po + i * 3 + 1, none⟩ = some (.int .i64 y) := (hg3.cell_far _ (by simp; omega) (Ne.symm NE.out)).trans ((World.cell?_alloc_lt wo _ ⟨gp, po + i * 3 + 1, none⟩ (by show gp < wo.heap.size; omega)).trans p1)
      have hz3 := HB3.out.size
      clear hown3 hg3 hl3 p0 p1
      go_wp2_with fail
      go_region_held3 (fun w' => w'.cell? ⟨gp, po + i * 3, none⟩ = some (.int .i64 x) ∧ w'.cell? ⟨gp, po + i * 3 + 1, none⟩ = some (.int .i64 y))
        (first
          | exact ⟨q0, q1⟩)
        (first
          | (go_at_call 5; refine (HMc.out _).mono ?_; rintro e wq ⟨rfl, rfl⟩))
      go_wp2_with (at_builtin; refine wpList_pushD el_int rfl _ _ rfl w2.heap.size _ i _ ((HC3.out.alloc _).drew) rfl w3.heap.size 1 _ rfl (by show (w3.alloc (.cells #[.int .i64 cd] 3)).cell? ⟨w3.heap.size, 0, none⟩ = _; exact new_cell rfl) rfl (by omega) (by omega) (by show w2.heap.size ≤ (w3.alloc _).heap.size; simp; omega) ?_; intro v4 w4 hown4 hg4 hl4; have HO4 := Lib.hid hown4; have HG4 := Lib.hid hg4; clear hown4 hg4 hl4)
      go_roundw
      case rel =>
        refine ⟨i + 1, by omega, by go_num, Lib.hid ((own_apart HC3.out HR3.out (by decide)).kept HG4.out ((HR3.out.alloc _).drew)), Lib.hid (by rw [HCs.out, List.map_append]; exact HO4.out), Lib.hid (below_push ((HB3.out.alloc hz3 _).drew) ((HC3.out.alloc _).drew) (Nat.le_refl _) (by show w2.heap.size ≤ (w3.alloc _).heap.size; simp; omega) HG4.out)⟩
      case measure => simp [intOf]; omega
    · obtain rfl : i = n := by omega
      have t1 : decide ((i : Int) < (i : Int)) = false := decide_eq_false (by omega)
      obtain ⟨vs, rs, hrk⟩ := RankR.ex (codesL ps i)
      have HCl := Lib.hid (codesL_len ps i)
      have HCw := Lib.hid (codesL_wf HCb.out)
      have HCo := Lib.hid fun W u (hi : IsInts .i64 W W.heap.size u (codesL ps i)) => ranksMake_any u (codesL ps i) vs rs 0 W _ (Nat.le_refl _) hi (.inr ⟨by rw [codesL_len]; omega, hrk, rfl⟩)
      have HAv : Hid (areaV (unitL (ptX ps) (ptY ps) i) i = (vs.length : Int)) := Lib.hid (area_unit (ptX ps) (ptY ps) (codeN ps) (codesL_len ps i) (fun j hj => codesL_at ps hj) hrk.1 (fun a b ha hb => codeN_inj HPa.out a b ha hb))
      have HDv : Hid (depthV (unitL (ptX ps) (ptY ps) i) i = mostC rs i i) := Lib.hid (depth_unit (ptX ps) (ptY ps) fun a b ha hb => by
        rw [ranks_eq hrk (by rw [codesL_len]; exact ha) (by rw [codesL_len]; exact hb), codesL_at ps ha, codesL_at ps hb, codeN_inj HPa.out b a hb ha]; rfl)
      have HAr := Lib.hid fun W u (hf : IsFlat 4 W W.heap.size u i (unitL (ptX ps) (ptY ps) i)) => kleeArea_any u i _ (vs.length : Int) 0 W _ (Nat.le_refl _) hf ⟨HRc.out.symm, by rw [if_pos rfl, HAv.out]⟩
      have HDr := Lib.hid fun W u (hf : IsFlat 4 W W.heap.size u i (unitL (ptX ps) (ptY ps) i)) => kleeDepth_any u i _ (mostC rs i i) 0 W _ (Nat.le_refl _) hf ⟨HRc.out.symm, by rw [if_pos rfl, HDv.out]⟩
      have HUw := Lib.hid (unitL_wf HPb.out)
      have HRl : Hid (rs.length = i) := Lib.hid (by rw [hrk.2.1, codesL_len])
      have hvl : 1 ≤ vs.length ∧ vs.length ≤ 31 := by
        have h1 := hrk.1.len
        rw [codesL_len] at h1
        refine ⟨?_, by omega⟩
        have h2 : (codesL ps i).getD 0 0 ∈ vs := (hrk.1.2 _).2 (getD_mem (by rw [codesL_len]; omega))
        exact List.length_pos_of_mem h2
      obtain ⟨vl, hvl'⟩ : ∃ k, k = vs.length := ⟨_, rfl⟩
      have HVl := Lib.hid hvl'
      rw [← hvl'] at hvl HAr
      clear hvl'
      go_wp2_with (first
        | (at_builtin; refine wpList_pushOwn el_rct rfl _ _ rfl wo.heap.size _ 0 [] (World.ownsRow_nil _ _ _ _) rfl w2.heap.size _ i _ HR.out rfl (fun y hy => by obtain ⟨z, _, rfl⟩ := List.mem_map.1 hy; rfl) (by omega) (by omega) (Nat.le_refl _) ?_; intro v5 w5 hown5 hg5 hl5; rw [Nat.zero_add, List.nil_append] at hown5; have HB5 := Lib.hid ((Below.refl wo.heap.size wo).grown hg5 (Nat.le_refl _) (fun k e => by cases e)); have HF5 := Lib.hid (own_flat hown5 (by omega) HUw.out); clear hown5 hg5 hl5)
        | (go_at_call 6; refine (HAr.out _ _ HF5.out).mono ?_; rintro e w6 ⟨rfl, hb6⟩; have HB6 := Lib.hid (HB5.out.trans (hb6.mono HB5.out.size)); clear hb6)
        | (go_at_call 7; refine (HCo.out _ _ (own_ints (own_size HC.out HB6.out) (by rw [HCl.out]; omega) HCw.out)).mono ?_; rintro e w7 ⟨u7, v7, rfl, hi7, hj7, hb7⟩; have HB7 := Lib.hid (HB6.out.trans (hb7.mono HB6.out.size)); have HI7 := Lib.hid hi7; have HJ7 := Lib.hid hj7; obtain ⟨A7, c7, rfl, _, _, _⟩ := hi7.open_ HVl.out.symm; obtain ⟨A8, c8, rfl, hc8, hm8, hr8⟩ := hj7.open_ HRl.out; clear hi7 hj7 hb7)
        | (go_at_call 8; refine (HDr.out _ _ (own_flat (own_size HR.out HB7.out) (by omega) HUw.out)).mono ?_; rintro e w8 ⟨rfl, hb8⟩; have HB8 := Lib.hid hb8; clear hb8))
      obtain ⟨rb, ro, rfl, hrb, hrc⟩ := ints_cells hr8 (by have := HRl.out; omega)
      have HRcs : Hid (∀ k, k < i → w8.cell? ⟨rb, ro + k, none⟩ = some (.int .i64 (rs.getD k 0))) := Lib.hid fun k hk => (HB8.out.cell (p := ⟨rb, ro + k, none⟩) hrb).trans (hrc k (by have := HRl.out; omega))
      have HBall := Lib.hid (HB2.out.trans ((HB.out.trans ((HB7.out.trans (HB8.out.mono HB7.out.size)).mono hzo)).mono hz2))
      clear hr8 hrc HR HC HAr HDr HCo HI7 HJ7 HB5 HB6 HF5
      go_loopw [16, 17, 18, 19] (fun mv av _ _ wr => ∃ a : Nat, a ≤ i ∧ av = .int .i64 a ∧ mv = .int .i64 (mostC rs i a) ∧ Drawn w8 wr) (fun _ av _ _ _ => i - (intOf av).toNat)
      case atStart => exact ⟨0, by omega, rfl, by rw [mostC_0], Drawn.refl _⟩
      case round =>
        obtain ⟨a, ha, rfl, rfl, hd⟩ := hrel
        have w1a : IntKind.i64.wrap ((a : Int) + 1) = (a : Int) + 1 := by rw [IntKind.wrap_i64]; omega
        by_cases hlt2 : a < i
        · have t2 : decide ((a : Int) < (i : Int)) = true := decide_eq_true (by omega)
          have HMs := Lib.hid (mostC_s rs i a)
          obtain ⟨mo, hmo⟩ : ∃ z, z = mostC rs i a := ⟨_, rfl⟩
          rw [← hmo] at HMs ⊢
          have HD1 := Lib.hid hd
          clear hd hmo
          go_wp2_with fail
          go_loopw [18, 19] (fun sv kv wr => ∃ k : Nat, k ≤ i ∧ kv = .int .i64 k ∧ sv = .int .i64 (sameC rs a k) ∧ Drawn w8 wr) (fun _ kv _ => i - (intOf kv).toNat)
          case atStart => exact ⟨0, by omega, rfl, by rw [sameC_0], HD1.out⟩
          case round =>
            clear HD1
            obtain ⟨k, hk, rfl, rfl, hd⟩ := hrel
            have w1k : IntKind.i64.wrap ((k : Int) + 1) = (k : Int) + 1 := by rw [IntKind.wrap_i64]; omega
            by_cases hlt3 : k < i
            · have t3 : decide ((k : Int) < (i : Int)) = true := decide_eq_true (by omega)
              have HSs := Lib.hid (sameC_s rs a k)
              have hsb := sameC_bd rs a k
              have k0 := (hd.cell ⟨rb, ro + k, none⟩).trans (HRcs.out k hlt3)
              have k1 := (hd.cell ⟨rb, ro + a, none⟩).trans (HRcs.out a hlt2)
              obtain ⟨so, hso⟩ : ∃ z, z = sameC rs a k := ⟨_, rfl⟩
              obtain ⟨r0, hr0⟩ : ∃ z, z = rs.getD k 0 := ⟨_, rfl⟩
              obtain ⟨r1, hr1⟩ : ∃ z, z = rs.getD a 0 := ⟨_, rfl⟩
              rw [← hso] at HSs hsb ⊢
              rw [← hr0] at HSs k0
              rw [← hr1] at HSs k1
              have w1s : IntKind.i64.wrap (so + 1) = so + 1 := by rw [IntKind.wrap_i64]; omega
              have HD2 := Lib.hid hd
              have i0 : (k : Int) < (i : Int) := by omega
              have i1 : (a : Int) < (i : Int) := by omega
              clear hd hso hr0 hr1
              by_cases hq : r0 = r1
              · have HS2 : Hid (sameC rs a (k + 1) = so + 1) := Lib.hid (by rw [HSs.out, if_pos hq])
                have t4 : (r0 == r1) = true := beq_iff_eq.2 hq
                clear hq HSs
                go_wp2_with fail
                go_quiet (fail)
                go_wp2
                go_roundw
                case rel => exact ⟨k + 1, by omega, by go_num, by rw [HS2.out], HD2.out.drewN _⟩
                case measure => simp [intOf]; omega
              · have HS2 : Hid (sameC rs a (k + 1) = so) := Lib.hid (by rw [HSs.out, if_neg hq, Int.add_zero])
                have t4 : (r0 == r1) = false := beq_eq_false_iff_ne.2 hq
                clear hq HSs
                go_wp2_with fail
                go_quiet (fail)
                go_wp2
                go_roundw
                case rel => exact ⟨k + 1, by omega, by go_num, by rw [HS2.out], HD2.out.drewN _⟩
                case measure => simp [intOf]; omega
            · obtain rfl : k = i := by omega
              have t3 : decide ((k : Int) < (k : Int)) = false := decide_eq_false (by omega)
              obtain ⟨so, hso⟩ : ∃ z, z = sameC rs a k := ⟨_, rfl⟩
              rw [← hso] at HMs ⊢
              have HD2 := Lib.hid hd
              clear hd hso
              go_wp2_with fail
              go_roundw
              case rel => exact ⟨a + 1, by omega, by go_num, by rw [HMs.out], HD2.out⟩
              case measure => simp [intOf]; omega
        · obtain rfl : a = i := by omega
          have t2 : decide ((a : Int) < (a : Int)) = false := decide_eq_false (by omega)
          obtain ⟨mo, hmo⟩ : ∃ z, z = mostC rs a a := ⟨_, rfl⟩
          rw [← hmo]
          have HD1 := Lib.hid hd
          clear hd
          go_wp2_with fail
          go_ret
          exact ⟨ret_bool (by simp), HBall.out.trans (HD1.out.below _)⟩
end Go.Proofs.Ytnkflafkalmnmaa
