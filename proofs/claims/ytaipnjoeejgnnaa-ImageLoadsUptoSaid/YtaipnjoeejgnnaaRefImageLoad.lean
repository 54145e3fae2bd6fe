/-
  Contract of the reference's ImageLoaded: the points of an image, or the code of what is refused. Conditions: the bytes can be read as data.
-/
import Derived.Test.YtaipnjoeejgnnaaImageLoad
import Derived.Test.YtaipnjoeejgnnaaRefLoadPlain
import Derived.Test.YtaipnjoeejgnnaaRefImageSave
import Derived.Test.YtaipnjoeejgnnaaSameInts
import Derived.Lib.QuietBelow
import Derived.Deep.RegionHeld3
import Derived.Laws.BytesArg
import Derived.Test.YtaipnjoeejgnnaaStepPush
namespace Go.Proofs.Ytaipnjoeejgnnaa
open Go Go.RowKit Go.Dam
set_option linter.unusedVariables false
def natV (z : Nat) : Value := .int .i64 (z : Int)
theorem unfold_le {n : Nat} (h : n < 34359738368) : -34359738368 ≤ unfoldN n ∧ unfoldN n ≤ 34359738368 := by
  by_cases h2 : n % 2 = 1
  · rw [unfoldN_odd h2]; omega
  · rw [unfoldN_even h2]; omega
theorem halvesL_wf {ns : List Nat} (h : ∀ m ∈ ns, m < 34359738368) : ∀ z ∈ halvesL ns, (Lit.int .i64 z).wf = true := by
  intro z hz
  unfold halvesL at hz
  obtain ⟨m, hm, rfl⟩ := List.mem_map.1 hz
  have := unfold_le (h m (List.mem_of_mem_drop hm))
  exact int_wf (by unfold I64; omega)
theorem getD_lt {ns : List Nat} (h : ∀ m ∈ ns, m < 34359738368) (j : Nat) : ns.getD j 0 < 34359738368 := by
  rcases Nat.lt_or_ge j ns.length with g | g
  · rw [List.getD_eq_getElem?_getD, List.getElem?_eq_getElem g]; exact h _ (List.getElem_mem g)
  · rw [List.getD_eq_getElem?_getD, List.getElem?_eq_none g]; decide
theorem take_step3 {l : List Int} {i : Nat} (h : i + 3 ≤ l.length) : l.take (i + 3) = l.take i ++ [l.getD i 0, l.getD (i + 1) 0, l.getD (i + 2) 0] := by
  have e : ∀ j, j < l.length → l.take (j + 1) = l.take j ++ [l.getD j 0] := fun j hj => by
    rw [List.take_succ_eq_append_getElem hj, List.getD_eq_getElem?_getD, List.getElem?_eq_getElem hj]; rfl
  rw [e (i + 2) (by omega), e (i + 1) (by omega), e i (by omega)]
  simp
theorem halves_step {ns : List Nat} {k j0 j1 j2 : Nat} (h : 1 + k * 3 + 3 ≤ ns.length) (h0 : j0 = 1 + k * 3) (h1 : j1 = j0 + 1) (h2 : j2 = j0 + 2) :
    (halvesL ns).take ((k + 1) * 3) = (halvesL ns).take (k * 3) ++ [unfoldN (ns.getD j0 0), unfoldN (ns.getD j1 0), unfoldN (ns.getD j2 0)] := by
  have hl := halvesL_len ns
  rw [show (k + 1) * 3 = k * 3 + 3 from by omega, take_step3 (by omega), halvesL_at (by omega), halvesL_at (by omega), halvesL_at (by omega)]
  subst h0 h1 h2
  rw [show k * 3 + 1 = 1 + k * 3 from by omega, show k * 3 + 2 + 1 = 1 + k * 3 + 2 from by omega]
theorem pt_news {w : World} {g : Nat} {a b c : Value} {t : TypeId} (hg : g = w.heap.size) : ∀ j u, [a, b, c][j]? = some u → (w.alloc (.cells #[a, b, c] t)).drew.cell? ((⟨g, 0, none⟩ : Addr).add j) = some u := by
  subst hg
  intro j u hj
  rw [add_zero_addr]
  show (w.alloc (.cells #[a, b, c] t)).cell? _ = _
  match j with
  | 0 => simp at hj; subst hj; simp
  | 1 => simp at hj; subst hj; simp
  | 2 => simp at hj; subst hj; simp
  | j + 3 => simp at hj
theorem pt_ones {a b c : Int} : ∀ u ∈ [Value.int .i64 a, Value.int .i64 b, Value.int .i64 c], u.oneCell' = true := by
  intro u hu
  simp at hu
  rcases hu with rfl | rfl | rfl <;> rfl
theorem strOfNums_inj {x y : List Int} (hx : ∀ z ∈ x, 0 ≤ z ∧ z ≤ 255) (hy : ∀ z ∈ y, 0 ≤ z ∧ z ≤ 255) (h : (strOfNums x).toList = (strOfNums y).toList) : x = y := by
  have e : ∀ l : List Int, (∀ z ∈ l, 0 ≤ z ∧ z ≤ 255) → (l.map fun n => UInt8.ofNat n.toNat).map (fun u => (u.toNat : Int)) = l := by
    intro l hl
    rw [List.map_map]
    conv => rhs; rw [← List.map_id l]
    apply List.map_congr_left
    intro z hz
    have := hl z hz
    simp only [Function.comp, id, UInt8.toNat_ofNat']
    omega
  have h2 : (strOfNums x).data.toList = (strOfNums y).data.toList := by rw [← Lib.toList_data, ← Lib.toList_data]; exact h
  rw [strOfNums_data, strOfNums_data] at h2
  rw [← e x hx, ← e y hy, h2]
theorem wrap_mul128 (x Q : Nat) (h : x % 128 * Q ≤ 34359738367) : wrap64 ((x : Int) % 128 * (Q : Int)) = ((x % 128 * Q : Nat) : Int) := by
  rw [show (x : Int) % 128 = ((x % 128 : Nat) : Int) from by omega, show ((x % 128 : Nat) : Int) * (Q : Int) = ((x % 128 * Q : Nat) : Int) from by push_cast; rfl]
  unfold wrap64; omega
theorem wrap_addN (z y : Nat) (h : z + y ≤ 34359738367) : wrap64 ((z : Int) + (y : Int)) = ((z + y : Nat) : Int) := by unfold wrap64; omega
theorem refHalf_any (m : Nat) (w : World) (hm : m < 34359738368) :
    Calls Try.prog 47 #[.int .i64 m] w fun e w' => e = .returned (.int .i64 (unfoldN m)) ∧ w = w' := by
  by_cases h : m % 2 = 1
  · have h1 := unfoldN_odd h
    generalize unfoldN m = u at *
    subst h1
    have t0 : (((m : Int).tmod 2) == 0) = false := by rw [beq_eq_false_iff_ne, Int.tmod_eq_emod_of_nonneg (by omega)]; omega
    have t1 : (m : Int).tdiv 2 = ((m / 2 : Nat) : Int) := by rw [Int.tdiv_eq_ediv_of_nonneg (by omega)]; omega
    go_enter Try.func47, Try.ntmps47
    go_wp2_with fail
    go_ret
    exact ⟨ret_int (by simp), rfl⟩
  · have h1 := unfoldN_even h
    generalize unfoldN m = u at *
    subst h1
    have t0 : (((m : Int).tmod 2) == 0) = true := by rw [beq_iff_eq, Int.tmod_eq_emod_of_nonneg (by omega)]; omega
    have t1 : (m : Int).tdiv 2 = ((m / 2 : Nat) : Int) := by rw [Int.tdiv_eq_ediv_of_nonneg (by omega)]; omega
    go_enter Try.func47, Try.ntmps47
    go_wp2_with fail
    go_ret
    exact ⟨ret_int (by simp), rfl⟩
set_option maxRecDepth 100000 in
set_option maxHeartbeats 2000000 in
theorem refLoad_any (v : Value) (b : List Int) (n : Nat) (l : List Int) (cc : Int) (w : World) (B : Nat) (hB : B ≤ w.heap.size) (h : IsInts .u8 w B v b) (hR : LoadR b n l cc) (hsz : b.length ≤ 1048576) :
    Calls Try.prog 16 #[v] w (GivesPoints n l cc w) := by
  have HI0 := Lib.hid h
  have HSz := Lib.hid hsz
  clear hsz
  obtain ⟨A, c, rfl, hc, hm, hn, hr, hw⟩ := h
  have hbr := byte_at hw
  have HBr := Lib.hid hbr
  have HBy : Hid (∀ z ∈ b, 0 ≤ z ∧ z ≤ 255) := Lib.hid fun z hz => wf_u8 (hw z hz)
  clear hw
  by_cases h9 : b.length < 9
  · obtain ⟨rfl, rfl, rfl⟩ : n = 0 ∧ l = [] ∧ cc = 5 := by rcases hR with ⟨_, h⟩ | ⟨h, _⟩ | ⟨h, _⟩ <;> first | exact h | omega
    clear hR hr hbr
    go_enter Try.func16, Try.ntmps16
    go_wp2_with fail
    go_ret2
    exact ⟨_, rfl, isFlat_nil _ _ _, Below.refl _ _⟩
  obtain ⟨bk, off, rfl, hbk, hcells⟩ := ints_cells hr (by omega)
  obtain ⟨k, hk1, hk2⟩ : ∃ k, b.length ≤ k + 4 ∧ k + 4 ≤ b.length := ⟨b.length - 4, by omega, by omega⟩
  obtain ⟨m, hm1, hm2⟩ : ∃ m, k ≤ m + 4 ∧ m + 4 ≤ k := ⟨k - 4, by omega, by omega⟩
  have ek : (b.length : Int) - 4 = (k : Int) := by omega
  have hkk : b.length - 4 = k := by omega
  rw [LoadR, hkk] at hR
  have HKK := Lib.hid hkk
  have HT := Lib.hid (HI0.out.take_ (show k ≤ b.length by omega))
  have HTl : Hid ((b.take k).length = k) := Lib.hid (by rw [List.length_take]; omega)
  have c0 := hcells k (by omega)
  have c1 := hcells (k + 1) (by omega)
  have c2 := hcells (k + 2) (by omega)
  have c3 := hcells (k + 3) (by omega)
  have HCs := Lib.hid hcells
  have HS4 : Hid (((b.getD k 0 * 256 + b.getD (k + 1) 0) * 256 + b.getD (k + 2) 0) * 256 + b.getD (k + 3) 0 = sum4 b k) := Lib.hid rfl
  have HSm := Lib.hid fun d os => Calls.regrown_of (refImageSum_s _ _ (Sort.grow (redrawn w d) os) B (by have := (below_regrown w d os).size; omega) (HT.out.below ((below_regrown w d os).mono hB)))
  have hsl := sumL_le (b.take k)
  generalize hss : sumL (b.take k) = ss at *
  have HSS := Lib.hid hss
  obtain ⟨x00, x01⟩ := hbr k
  obtain ⟨x10, x11⟩ := hbr (k + 1)
  obtain ⟨x20, x21⟩ := hbr (k + 2)
  obtain ⟨x30, x31⟩ := hbr (k + 3)
  clear hbr
  generalize hs4 : sum4 b k = s4 at *
  have HS44 := Lib.hid hs4
  generalize b.getD k 0 = x0 at *
  generalize b.getD (k + 1) 0 = x1 at *
  generalize b.getD (k + 2) 0 = x2 at *
  generalize b.getD (k + 3) 0 = x3 at *
  obtain ⟨j1, hj1⟩ : ∃ j, j = k + 1 := ⟨_, rfl⟩
  obtain ⟨j2, hj2⟩ : ∃ j, j = k + 2 := ⟨_, rfl⟩
  obtain ⟨j3, hj3⟩ : ∃ j, j = k + 3 := ⟨_, rfl⟩
  have w1 : IntKind.i64.wrap ((k : Int) + 1) = (j1 : Int) := by rw [IntKind.wrap_i64]; omega
  have w2 : IntKind.i64.wrap ((k : Int) + 2) = (j2 : Int) := by rw [IntKind.wrap_i64]; omega
  have w3 : IntKind.i64.wrap ((k : Int) + 3) = (j3 : Int) := by rw [IntKind.wrap_i64]; omega
  have w4 : IntKind.i64.wrap (x0 * 256) = x0 * 256 := by rw [IntKind.wrap_i64]; omega
  have w5 : IntKind.i64.wrap (x0 * 256 + x1) = x0 * 256 + x1 := by rw [IntKind.wrap_i64]; omega
  have w6 : IntKind.i64.wrap ((x0 * 256 + x1) * 256) = (x0 * 256 + x1) * 256 := by rw [IntKind.wrap_i64]; omega
  have w7 : IntKind.i64.wrap ((x0 * 256 + x1) * 256 + x2) = (x0 * 256 + x1) * 256 + x2 := by rw [IntKind.wrap_i64]; omega
  have w8 : IntKind.i64.wrap (((x0 * 256 + x1) * 256 + x2) * 256) = ((x0 * 256 + x1) * 256 + x2) * 256 := by rw [IntKind.wrap_i64]; omega
  have w9 : IntKind.i64.wrap (((x0 * 256 + x1) * 256 + x2) * 256 + x3) = ((x0 * 256 + x1) * 256 + x2) * 256 + x3 := by rw [IntKind.wrap_i64]; omega
  have wc0 : IntKind.i64.wrap x0 = x0 := by rw [IntKind.wrap_i64]; omega
  have wc1 : IntKind.i64.wrap x1 = x1 := by rw [IntKind.wrap_i64]; omega
  have wc2 : IntKind.i64.wrap x2 = x2 := by rw [IntKind.wrap_i64]; omega
  have wc3 : IntKind.i64.wrap x3 = x3 := by rw [IntKind.wrap_i64]; omega
  have q0 := fun d os => cell_regrown c0 d os
  have q1 := fun d os => cell_regrown c1 d os
  have q2 := fun d os => cell_regrown c2 d os
  have q3 := fun d os => cell_regrown c3 d os
  have hne : c ≠ k := by omega
  have s1 : (k : Int) ≤ c := by omega
  have s2 : k ≤ c := by omega
  have s3 : (k : Int) ≤ b.length := by omega
  have i0 : (k : Int) < b.length := by omega
  have i1 : (j1 : Int) < b.length := by omega
  have i2 : (j2 : Int) < b.length := by omega
  have i3 : (j3 : Int) < b.length := by omega
  rw [← hj1] at q1
  rw [← hj2] at q2
  rw [← hj3] at q3
  clear hss hcells hr hkk hj1 hj2 hj3 c0 c1 c2 c3
  go_enter Try.func16, Try.ntmps16
  go_wp2_with fail
  refine wp_region_quiet_below (by kernel_rfl) (by kernel_rfl) ?_
  repeat (quiet_step ((go_at_call 46; exact HSm.out _ _)))
  refine wpQuiet_nil ?_
  intro _ hw'
  obtain ⟨⟨dq, osq⟩, hw''⟩ := hw'
  subst hw''
  have HW := Lib.hid (below_regrown w dq osq)
  generalize Sort.grow (redrawn w dq) osq = wq at *
  rw [HS4.out]
  clear q0 q1 q2 q3 w1 w2 w3 w4 w5 w6 w7 w8 w9 wc0 wc1 wc2 wc3 x00 x01 x10 x11 x20 x21 x30 x31 i0 i1 i2 i3
  by_cases hs : s4 = (ss : Int)
  rotate_left
  · obtain ⟨rfl, rfl, rfl⟩ : n = 0 ∧ l = [] ∧ cc = 6 := by rcases hR with ⟨h, _⟩ | ⟨_, _, h⟩ | ⟨_, h, _⟩ <;> first | exact h | omega | exact absurd h hs
    have t0 : (s4 != (ss : Int)) = true := by simpa using hs
    clear hR hs
    go_wp2_with fail
    go_ret2
    exact ⟨_, rfl, isFlat_nil _ _ _, HW.out⟩
  have hR2 : (Loads b n l ∧ cc = 0) ∨ (NoLoad b ∧ n = 0 ∧ l = [] ∧ cc = 4) := by rcases hR with ⟨h, _⟩ | ⟨_, h, _⟩ | ⟨_, _, h⟩ <;> first | exact h | omega | exact absurd hs h
  have HR2 := Lib.hid hR2
  have HNo : Hid (NoLoad b → n = 0 ∧ l = [] ∧ cc = 4) := Lib.hid fun h => by rcases hR2 with ⟨g, _⟩ | g; exact absurd g (h _ _); exact g.2
  have t0 : (s4 != (ss : Int)) = false := by rw [hs]; simp
  have HML : Hid ((midL b).length = m) := Lib.hid (by rw [midL_len (by omega)]; omega)
  have HMA : Hid (∀ t, t < m → (midL b).getD t 0 = b.getD (4 + t) 0) := Lib.hid fun t ht => midL_at (by omega)
  have hne4 : c ≠ 4 := by omega
  have hk4 : k - 4 = m := by omega
  clear hR hs hR2
  rw [t0]
  go_wp2_with fail
  go_loopw [5, 6, 7, 9, 59] (fun av nv sv _ iv wr => ∃ (t : Nat) (ns : List Nat) (z s : Nat), t ≤ m ∧ iv = .int .i64 t ∧ nv = .int .i64 z ∧ sv = .int .i64 s ∧ pz (midL b) t = (ns, z, s) ∧ (∀ j, j < t → (pz (midL b) j).2.2 ≤ 28) ∧ wr.ownsRow w.heap.size 3 1 av ns.length (ns.map natV) ∧ Below w.heap.size w wr) (fun _ _ _ _ iv _ => m - (intOf iv).toNat)
  case atStart => exact ⟨0, [], 0, 0, by omega, rfl, rfl, rfl, pz_0 _, fun j hj => absurd hj (by omega), World.ownsRow_nil _ _ _ _, HW.out⟩
  case round =>
    obtain ⟨t, ns, z, s, ht, rfl, rfl, rfl, hpz, hle, hown, hbel⟩ := hrel
    have hbz := hbel.size
    by_cases hlt : t < m
    · obtain ⟨y0, y1⟩ := HBr.out (4 + t)
      have k0 : wr.cell? ⟨bk, off + 4 + t, none⟩ = some (.int .u8 (b.getD (4 + t) 0)) := by
        rw [Nat.add_assoc]
        exact (hbel.cell (p := ⟨bk, off + (4 + t), none⟩) (by show bk < w.heap.size; omega)).trans (HCs.out (4 + t) (by omega))
      have hgx := HMA.out t hlt
      obtain ⟨x, hx⟩ : ∃ x : Nat, b.getD (4 + t) 0 = x := ⟨_, (Int.toNat_of_nonneg y0).symm⟩
      rw [hx] at k0 y0 y1 hgx
      have hgx2 : ((midL b).getD t 0).toNat = x := by rw [hgx]; omega
      clear hx hgx
      by_cases h28 : 28 < s
      · obtain ⟨rfl, rfl, rfl⟩ := HNo.out (noLoad_shift (t := t) (by rw [HML.out]; exact hlt) (by rw [hpz]; exact h28))
        have HBe := Lib.hid hbel
        have t1 : decide ((28 : Int) < (s : Int)) = true := decide_eq_true (by omega)
        clear hle hown hpz hgx2 hbel HR2 HNo
        go_wp2_with fail
        go_ret2
        exact ⟨_, rfl, isFlat_nil _ _ _, HBe.out⟩
      · obtain ⟨hz, _, _, hnl⟩ := pz_bound (midL b) t fun j hj => hle j hj
        rw [hpz] at hz hnl
        simp only at hz hnl
        have hQ : 2 ^ s ≤ 268435456 := Nat.le_trans (Nat.pow_le_pow_right (by decide) (by omega : s ≤ 28)) (by decide)
        have hxm : x % 128 * 2 ^ s ≤ 127 * 2 ^ s := Nat.mul_le_mul_right _ (by omega)
        have HLo := Lib.hid fun h => pz_lo hpz (by rw [hgx2]; exact h)
        have HHi := Lib.hid fun h => pz_hi hpz (by rw [hgx2]; exact h)
        rw [hgx2] at HLo HHi
        have hp2 : (2 : Int) ^ s = ((2 ^ s : Nat) : Int) := by push_cast; rfl
        have hzb : z + x % 128 * 2 ^ s ≤ 34359738367 := by omega
        have hy := wrap_mul128 x (2 ^ s) (Nat.le_trans (Nat.le_add_left _ z) hzb)
        have hzy2 := wrap_addN z (x % 128 * 2 ^ s) hzb
        generalize x % 128 * 2 ^ s = y at *
        generalize 2 ^ s = Q at *
        have HO := Lib.hid hown
        have HBe := Lib.hid hbel
        have HPz := Lib.hid hpz
        have HLe : Hid (∀ j, j < t + 1 → (pz (midL b) j).2.2 ≤ 28) := Lib.hid fun j hj => by
          rcases Nat.lt_or_ge j t with g | g
          · exact hle j g
          · obtain rfl : j = t := by omega
            rw [hpz]; show s ≤ 28; omega
        have t1 : decide ((28 : Int) < (s : Int)) = false := decide_eq_false (by omega)
        have hx7 : ((x : Int).tmod 128) = ((x % 128 : Nat) : Int) := by rw [Int.tmod_eq_emod_of_nonneg (by omega)]; omega
        obtain ⟨A2, c2, rfl⟩ := own_shape hown
        clear hle hown hbel hpz hgx2
        by_cases hlo : x < 128
        · have t2 : decide ((x : Int) < 128) = true := decide_eq_true (by omega)
          have t3 : decide ((t : Int) < (m : Int)) = true := decide_eq_true (by omega)
          have HP := Lib.hid (HLo.out hlo)
          generalize z + y = zy at *
          clear HLo HHi hzb hQ hxm hz
          go_wp2_with (at_builtin; refine wpList_pushD el_int rfl (.tmp 76) (.tmp 78) rfl w.heap.size _ ns.length _ (HO.out.alloc _) rfl wr.heap.size 1 _ rfl (new_cell rfl) rfl (by have := HSz.out; omega) (by have := HSz.out; omega) (by simp; omega) ?_; intro v2 w2 hown2 hg2 hl2)
          go_roundw
          case rel => exact ⟨t + 1, ns ++ [zy], 0, 0, by omega, by go_num, rfl, rfl, HP.out, HLe.out, by rw [List.length_append, List.map_append]; exact hown2, below_push (HBe.out.alloc hbz _) (HO.out.alloc _) (Nat.le_refl _) (by simp; omega) hg2⟩
          case measure => simp [intOf]; omega
        · have t2 : decide ((x : Int) < 128) = false := decide_eq_false (by omega)
          have t3 : decide ((t : Int) < (m : Int)) = true := decide_eq_true (by omega)
          have HP := Lib.hid (HHi.out hlo)
          generalize z + y = zy at *
          clear HLo HHi hzb hQ hxm hz
          go_wp2_with fail
          go_roundw
          case rel => exact ⟨t + 1, ns, zy, s + 7, by omega, by go_num, vint hzy2, vint (by push_cast; omega), HP.out, HLe.out, HO.out, HBe.out⟩
          case measure => simp [intOf]; omega
    · obtain rfl : t = m := by omega
      have hlast : pz (midL b) (midL b).length = (ns, z, s) := by rw [HML.out]; exact hpz
      obtain ⟨_, _, hmem, hnl⟩ := pz_bound (midL b) t fun j hj => hle j hj
      rw [hpz] at hmem hnl
      simp only at hmem hnl
      have HNN := Lib.hid (fun h => HNo.out (noLoad_nums hlast h))
      have HNB := Lib.hid (fun n0 hn0 h => HNo.out (noLoad_bytes hlast (n := n0) hn0 h))
      have HMem := Lib.hid hmem
      have HO := Lib.hid hown
      have HBe := Lib.hid hbel
      have hnb : ns.length ≤ 1048576 := by have := HSz.out; omega
      have t1 : decide ((t : Int) < (t : Int)) = false := decide_eq_false (by omega)
      obtain ⟨A2, c2, rfl⟩ := own_shape hown
      clear hlast hmem hpz hle hbel hnl HML HMA HNo
      by_cases h0 : s = 0
      rotate_left
      · obtain ⟨rfl, rfl, rfl⟩ := HNN.out fun h => h0 h.1
        have t2 : ((s : Int) != 0) = true := bne_iff_ne.2 (by omega)
        clear hown
        go_wp2_with fail
        go_ret2
        exact ⟨_, rfl, isFlat_nil _ _ _, HBe.out⟩
      subst h0
      by_cases hne : ns.length = 0
      · obtain ⟨rfl, rfl, rfl⟩ := HNN.out fun h => h.2.1 (List.eq_nil_of_length_eq_zero hne)
        have t2 : ((ns.length : Int) == 0) = true := beq_iff_eq.2 (by omega)
        clear hown
        go_wp2_with fail
        go_ret2
        exact ⟨_, rfl, isFlat_nil _ _ _, HBe.out⟩
      have hpos : 0 < ns.length := by omega
      obtain ⟨g2, cap2, hv2, _, hg2lt⟩ := hown.form hpos
      injection hv2 with hA2 _ hc2
      subst hA2 hc2
      have hcell : ∀ j, j < ns.length → wr.cell? ⟨g2, j, none⟩ = some (.int .i64 (ns.getD j 0 : Nat)) := fun j hj => by
        rw [hown.cellAt j (by omega), List.getElem?_map, List.getElem?_eq_getElem hj, List.getD_eq_getElem?_getD, List.getElem?_eq_getElem hj]; rfl
      have HCell := Lib.hid hcell
      have k0 := hcell 0 hpos
      have t2 : ((ns.length : Int) == 0) = false := beq_eq_false_iff_ne.2 (by omega)
      have t3 : (0 : Int) < (ns.length : Int) := by omega
      obtain ⟨q, hq⟩ : ∃ q, ns.getD 0 0 = q := ⟨_, rfl⟩
      have HQ := Lib.hid hq
      rw [hq] at k0
      clear hown hcell hne hq
      by_cases h150 : 150 < q
      · obtain ⟨rfl, rfl, rfl⟩ := HNN.out fun h => by have := h.2.2.1; rw [HQ.out] at this; omega
        have t4 : decide ((150 : Int) < (q : Int)) = true := decide_eq_true (by omega)
        go_wp2_with fail
        go_ret2
        exact ⟨_, rfl, isFlat_nil _ _ _, HBe.out⟩
      have t4 : decide ((150 : Int) < (q : Int)) = false := decide_eq_false (by omega)
      have e3 : wrap64 (3 * (q : Int)) = 3 * (q : Int) := by unfold wrap64; omega
      have e4 : wrap64 (1 + 3 * (q : Int)) = 1 + 3 * (q : Int) := by unfold wrap64; omega
      by_cases hlq : ns.length = 1 + 3 * q
      rotate_left
      · obtain ⟨rfl, rfl, rfl⟩ := HNN.out fun h => hlq (by have := h.2.2.2; rw [HQ.out] at this; exact this)
        have t5 : ((ns.length : Int) != 1 + 3 * (q : Int)) = true := bne_iff_ne.2 (by omega)
        go_wp2_with fail
        go_ret2
        exact ⟨_, rfl, isFlat_nil _ _ _, HBe.out⟩
      have t5 : ((ns.length : Int) != 1 + 3 * (q : Int)) = false := bne_eq_false_iff_eq.2 (by omega)
      have HLq := Lib.hid hlq
      have HHl := Lib.hid (halvesL_len ns)
      clear hlq HNN
      go_wp2_with fail
      obtain ⟨W, rfl⟩ : ∃ W : World, W = wr := ⟨_, rfl⟩
      have HR3 : Hid (∀ z ∈ halvesL ns, (Lit.int .i64 z).wf = true) := Lib.hid (halvesL_wf HMem.out)
      clear t1 t2 t3 t4 t5 e3 e4 k0
      go_loopw [11, 12] (fun ov iv wx => ∃ k2 j0 : Nat, k2 ≤ q ∧ Hid (j0 = 1 + k2 * 3) ∧ iv = .int .i64 j0 ∧ wx.ownsRow W.heap.size 82 3 ov k2 (((halvesL ns).take (k2 * 3)).map (Value.int .i64)) ∧ Below W.heap.size W wx) (fun _ iv _ => ns.length - (intOf iv).toNat)
      case atStart => exact ⟨0, 1, by omega, Lib.hid rfl, rfl, World.ownsRow_nil _ _ _ _, Below.refl _ _⟩
      case round =>
        obtain ⟨k2, j0, hk3, hj0, rfl, hown2, hb2⟩ := hrel
        obtain ⟨A3, c3, rfl⟩ := own_shape hown2
        have HO2 := Lib.hid hown2
        have HB2 := Lib.hid hb2
        have hz2 := hb2.size
        by_cases hlt : k2 < q
        · have hjj := hj0.out
          have hll := HLq.out
          obtain ⟨j1, ej1⟩ : ∃ j, j = j0 + 1 := ⟨_, rfl⟩
          obtain ⟨j2, ej2⟩ : ∃ j, j = j0 + 2 := ⟨_, rfl⟩
          have i0 : (j0 : Int) < (ns.length : Int) := by omega
          have i1 : (j1 : Int) < (ns.length : Int) := by omega
          have i2 : (j2 : Int) < (ns.length : Int) := by omega
          have t6 : decide ((j0 : Int) < (ns.length : Int)) = true := decide_eq_true i0
          have w1 : IntKind.i64.wrap ((j0 : Int) + 1) = (j1 : Int) := by rw [IntKind.wrap_i64]; omega
          have w2 : IntKind.i64.wrap ((j0 : Int) + 2) = (j2 : Int) := by rw [IntKind.wrap_i64]; omega
          have n0 := (hb2.cell (p := ⟨g2, j0, none⟩) (by simp; omega)).trans (HCell.out j0 (by omega))
          have n1 := (hb2.cell (p := ⟨g2, j1, none⟩) (by simp; omega)).trans (HCell.out j1 (by omega))
          have n2 := (hb2.cell (p := ⟨g2, j2, none⟩) (by simp; omega)).trans (HCell.out j2 (by omega))
          have m0 := getD_lt HMem.out j0
          have m1 := getD_lt HMem.out j1
          have m2 := getD_lt HMem.out j2
          have HX : Hid ((halvesL ns).take ((k2 + 1) * 3) = (halvesL ns).take (k2 * 3) ++ [unfoldN (ns.getD j0 0), unfoldN (ns.getD j1 0), unfoldN (ns.getD j2 0)]) := Lib.hid (halves_step (by omega) hjj ej1 ej2)
          generalize ns.getD j0 0 = a0 at *
          generalize ns.getD j1 0 = a1 at *
          generalize ns.getD j2 0 = a2 at *
          have J0 := Lib.hid hjj
          have J1 := Lib.hid ej1
          clear hown2 hb2 hjj hll ej1 ej2 hj0
          have NE : Hid ((Value.slice A3 k2 c3).ownBlock ≠ some g2) := Lib.hid fun e => by have := (HO2.out.lt _ e).1; omega
          go_wp2_with fail
          go_region_held3 (fun w' => w'.cell? ⟨g2, j0, none⟩ = some (.int .i64 a0) ∧ w'.cell? ⟨g2, j1, none⟩ = some (.int .i64 a1) ∧ w'.cell? ⟨g2, j2, none⟩ = some (.int .i64 a2))
            (first
              | go_keep
              | exact ⟨(hg3.cell_far _ (by simp; omega) (Ne.symm NE.out)).trans ((World.cell?_alloc_lt wr _ ⟨g2, j0, none⟩ (by show g2 < wr.heap.size; omega)).trans n0), (hg3.cell_far _ (by simp; omega) (Ne.symm NE.out)).trans ((World.cell?_alloc_lt wr _ ⟨g2, j1, none⟩ (by show g2 < wr.heap.size; omega)).trans n1), (hg3.cell_far _ (by simp; omega) (Ne.symm NE.out)).trans ((World.cell?_alloc_lt wr _ ⟨g2, j2, none⟩ (by show g2 < wr.heap.size; omega)).trans n2)⟩)
            (first
              | (go_at_call 47; refine (refHalf_any _ _ (by assumption)).mono ?_; rintro e wh ⟨rfl, rfl⟩)
              | (refine step_pushM el_pt rfl (.tmp 110) (.tmp 132) rfl W.heap.size (.slice A3 k2 c3) k2 _ ((HO2.out.alloc _).drew) (by rfl) ⟨wr.heap.size, 0, none⟩ 1 1 [.int .i64 (unfoldN a0), .int .i64 (unfoldN a1), .int .i64 (unfoldN a2)] (by rfl) rfl (pt_news (by simp)) pt_ones (by omega) (by omega) (by simp; omega) ?_; intro v3 w3 hown3 hg3 hl3))
          all_goals go_wp2_with fail
          all_goals go_roundw
          case rel => exact ⟨k2 + 1, j0 + 3, by omega, Lib.hid (by have := J0.out; omega), by go_num, by rw [HX.out, List.map_append]; exact hown3, below_push (HB2.out.alloc hz2 _).drew (HO2.out.alloc _).drew (Nat.le_refl _) (by simp; omega) hg3⟩
          case measure => simp [intOf]; omega
        · obtain rfl : k2 = q := by omega
          have hjj := hj0.out
          have hll := HLq.out
          have i6 : ¬ (j0 : Int) < (ns.length : Int) := by omega
          have t6 : decide ((j0 : Int) < (ns.length : Int)) = false := decide_eq_false i6
          have HFl : Hid (IsFlat 3 wr wr.heap.size (.slice A3 k2 c3) k2 (halvesL ns)) := Lib.hid (by
            have h1 : (halvesL ns).take (k2 * 3) = halvesL ns := List.take_of_length_le (by rw [HHl.out]; omega)
            rw [h1] at hown2
            exact own_flat hown2 (by omega) HR3.out)
          have HSv := Lib.hid (refSave_any _ k2 (halvesL ns) wr _ (Nat.le_refl _) HFl.out)
          have HBW := Lib.hid (HBe.out.trans (HB2.out.mono HBe.out.size))
          have HNB2 := Lib.hid (HNB.out k2 HQ.out)
          have HLo : Hid (ns.length = 1 + 3 * k2) := Lib.hid hll
          clear hown2 hb2 hjj hll HNB HO2 HB2 HR3 HCell hj0
          by_cases hp : ptCode k2 (halvesL ns) = 0
          rotate_left
          · obtain ⟨rfl, rfl, rfl⟩ := HNB2.out fun h => hp (pt_ok h.1 h.2.1)
            have tp : (ptCode k2 (halvesL ns) != 0) = true := bne_iff_ne.2 hp
            generalize ptCode k2 (halvesL ns) = pc at *
            clear hp
            go_wp2_with (go_at_call 48; refine (HSv.out).mono ?_; rintro e w5 ⟨u5, rfl, hi5, hb5⟩; have HB5 := Lib.hid hb5; obtain ⟨A5, c5, rfl, _, _, _⟩ := hi5.openB rfl; clear hi5 hb5)
            go_ret2
            exact ⟨_, rfl, isFlat_nil _ _ _, HBW.out.trans (HB5.out.mono HBW.out.size)⟩
          · obtain ⟨_, hco⟩ := pt_coords hp
            have hsv := savedL_0 hp
            rw [hp, hsv] at HSv
            have HY : Hid (∀ z ∈ saveL k2 (halvesL ns), 0 ≤ z ∧ z ≤ 255) := Lib.hid fun z hz => wf_u8 (saveL_wf _ _ z hz)
            have HPos : Hid (0 < (saveL k2 (halvesL ns)).length) := Lib.hid (by rw [saveL_eq, List.length_append, tailL_len]; omega)
            have HEq : Hid (saveL k2 (halvesL ns) = b → Loads b k2 (halvesL ns)) := Lib.hid fun h => load_of (by have := HLo.out; omega) (by omega) hco h.symm
            have HNe : Hid (saveL k2 (halvesL ns) ≠ b → n = 0 ∧ l = [] ∧ cc = 4) := Lib.hid fun h => HNB2.out fun g => h g.2.2.symm
            generalize saveL k2 (halvesL ns) = sv at *
            clear hp hco hsv HNB2 HQ HHl HMem
            by_cases hsb : sv = b
            · have hL := HEq.out hsb
              obtain ⟨rfl, rfl, rfl⟩ : k2 = n ∧ halvesL ns = l ∧ cc = 0 := by
                rcases HR2.out with ⟨h1, h2⟩ | ⟨h1, _⟩
                · obtain ⟨e1, e2⟩ := hL.uniq h1; exact ⟨e1, e2, h2⟩
                · exact absurd hL (h1 _ _)
              have tb : ((strOfNums sv).toList == (strOfNums b).toList) = true := by rw [hsb]; simp
              clear hsb HNe HEq hL
              go_wp2_with (go_at_call 48; refine (HSv.out).mono ?_; rintro e w5 ⟨u5, rfl, hi5, hb5⟩; have HB5 := Lib.hid hb5; have HT5 := Lib.hid (HBW.out.trans (hb5.mono HBW.out.size)); obtain ⟨A5, c5, rfl, _, _, hr5⟩ := hi5.openB rfl; obtain ⟨g5, o5, rfl, hg5, hc5⟩ := ints_cells hr5 HPos.out; have kc1 := run_convert_bytes_arg (P := Try.prog) w5 22 5 Try.underlying22 Try.underlying5 g5 o5 sv.length c5 sv rfl hc5 9 Try.underlying9; have kc2 := run_convert_bytes_arg (P := Try.prog) w5 22 5 Try.underlying22 Try.underlying5 bk off b.length c b rfl (fun i hi => (HT5.out.cell (p := ⟨bk, off + i, none⟩) (by show bk < w.heap.size; omega)).trans (HCs.out i hi)) 9 Try.underlying9; clear hi5 hb5 hr5 hc5)
              go_ret2
              exact ⟨_, rfl, (HFl.out.below HB5.out).more HB5.out.size, HT5.out⟩
            · obtain ⟨rfl, rfl, rfl⟩ := HNe.out hsb
              have tb : ((strOfNums sv).toList == (strOfNums b).toList) = false := beq_eq_false_iff_ne.2 fun h => hsb (strOfNums_inj HY.out HBy.out h)
              clear hsb HNe HEq
              go_wp2_with (go_at_call 48; refine (HSv.out).mono ?_; rintro e w5 ⟨u5, rfl, hi5, hb5⟩; have HB5 := Lib.hid hb5; have HT5 := Lib.hid (HBW.out.trans (hb5.mono HBW.out.size)); obtain ⟨A5, c5, rfl, _, _, hr5⟩ := hi5.openB rfl; obtain ⟨g5, o5, rfl, hg5, hc5⟩ := ints_cells hr5 HPos.out; have kc1 := run_convert_bytes_arg (P := Try.prog) w5 22 5 Try.underlying22 Try.underlying5 g5 o5 sv.length c5 sv rfl hc5 9 Try.underlying9; have kc2 := run_convert_bytes_arg (P := Try.prog) w5 22 5 Try.underlying22 Try.underlying5 bk off b.length c b rfl (fun i hi => (HT5.out.cell (p := ⟨bk, off + i, none⟩) (by show bk < w.heap.size; omega)).trans (HCs.out i hi)) 9 Try.underlying9; clear hi5 hb5 hr5 hc5)
              go_ret2
              exact ⟨_, rfl, isFlat_nil _ _ _, HT5.out⟩
end Go.Proofs.Ytaipnjoeejgnnaa
