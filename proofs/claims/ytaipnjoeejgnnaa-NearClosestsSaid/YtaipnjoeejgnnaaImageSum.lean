/-
  Contracts of image.Sum and the reference's ImageSum: the sum of the bytes. Conditions: the bytes can be read as data.
-/
import Derived.Test.YtaipnjoeejgnnaaIntBlk
import Derived.Test.YtaipnjoeejgnnaaCrcPlain
namespace Go.Proofs.Ytaipnjoeejgnnaa
open Go Go.RowKit Go.Dam
set_option linter.unusedVariables false
set_option maxHeartbeats 1000000 in
theorem imageSum_any (v : Value) (l : List Int) (w : World) (B : Nat) (h : IsInts .u8 w B v l) :
    Calls Try.prog 43 #[v] w fun e w' => e = .returned (.int .i64 (4294967295 - ((crcTo l l.length : Nat) : Int))) ∧ w = w' := by
  obtain ⟨A, c, rfl, hc, hm, hn, hr, hw⟩ := h
  have HW := Lib.hid (byte_at hw)
  have HL := Lib.hid (crcTo_lt (l := l) (fun i => by have := byte_at hw i; omega))
  clear hw
  go_enter Try.func43, Try.ntmps43
  go_wp2_with fail
  go_loop [3, 9] (fun nv iv => ∃ i : Nat, i ≤ l.length ∧ iv = .int .i64 i ∧ nv = .int .u32 ((crcTo l i : Nat) : Int)) (fun _ iv => l.length - (intOf iv).toNat)
  case atStart => exact ⟨0, by omega, rfl, by rw [crcTo_0]; rfl⟩
  case round =>
    obtain ⟨i, hi, rfl, rfl⟩ := hrel
    have hlt32 := HL.out i
    by_cases hlt : i < l.length
    · obtain ⟨b, off, rfl, hb, hcells⟩ := ints_cells hr (by omega)
      have k0 := hcells i hlt
      have hS := crcTo_succ l i
      obtain ⟨x0, x1⟩ := HW.out i
      obtain ⟨x, hx⟩ := Int.eq_ofNat_of_zero_le x0
      rw [hx] at k0 x1 hS
      rw [Int.toNat_natCast] at hS
      have ex := xor_u32 (crcTo l i) x hlt32 (by omega)
      have hm32 : crcTo l i ^^^ x < 4294967296 := Nat.xor_lt_two_pow (n := 32) hlt32 (by omega)
      generalize crcTo l i = n at *
      generalize hm0 : n ^^^ x = m at *
      have HS := Lib.hid hS
      clear hcells hS hm0 hx x0
      go_wp2_with fail
      go_loop [3, 17] (fun nv kv => ∃ k : Nat, k ≤ 8 ∧ kv = .int .i64 k ∧ nv = .int .u32 ((crcN k m : Nat) : Int)) (fun _ kv => 8 - (intOf kv).toNat)
      case atStart => exact ⟨0, by omega, rfl, by rw [crcN_0]⟩
      case round =>
        obtain ⟨k, hk, rfl, rfl⟩ := hrel
        have ht := crcN_lt hm32 k
        by_cases hk8 : k < 8
        · have hT := crcN_succ k m
          generalize crcN k m = t at *
          rcases Nat.mod_two_eq_zero_or_one t with h2 | h2
          · obtain ⟨ha, he⟩ := crc_even ht h2
            rw [← hT] at he
            have HT := Lib.hid he
            clear hT h2 he
            go_wp2_with fail
            go_round
            case rel => exact ⟨k + 1, by omega, by go_num, vint HT.out⟩
            case measure => simp [intOf]; omega
          · obtain ⟨ha, hx2⟩ := crc_odd ht h2
            have HT := Lib.hid hT
            clear hT h2
            go_wp2_with fail
            go_round
            case rel => exact ⟨k + 1, by omega, by go_num, by rw [HT.out]⟩
            case measure => simp [intOf]; omega
        · obtain rfl : k = 8 := by omega
          go_wp2_with fail
          go_round
          case rel => exact ⟨i + 1, by omega, by go_num, by rw [HS.out]⟩
          case measure => simp [intOf]; omega
    · obtain rfl : i = l.length := by omega
      obtain ⟨n, hn'⟩ : ∃ n, n = crcTo l l.length := ⟨_, rfl⟩
      rw [← hn'] at hlt32 ⊢
      have HN := Lib.hid hn'
      have hnot := not_u32 n hlt32
      have hnl : ((4294967295 - n : Nat) : Int) = 4294967295 - (n : Int) := by omega
      rw [hnl] at hnot
      clear hnl hn'
      go_wp2_with fail
      go_ret
      exact ⟨ret_int (by rw [← HN.out]; exact IntWalk.wrap64_in _ ⟨by omega, by omega⟩), rfl⟩
theorem el_u32 : El Try.prog 149 141 (.int .u32 0) 1 4 := ⟨Try.underlying149, by kernel_rfl, rfl, by decide⟩
/-- The table while it is made. -/
def tabTo (i : Nat) : List Int := (List.range 256).map fun j => if j < i then ((crcN 8 j : Nat) : Int) else 0
theorem tabTo_length (i : Nat) : (tabTo i).length = 256 := by simp [tabTo]
theorem tabTo_0 : tabTo 0 = List.replicate 256 0 := by
  unfold tabTo
  rw [List.eq_replicate_iff]
  refine ⟨by simp, fun b hb => ?_⟩
  obtain ⟨j, _, rfl⟩ := List.mem_map.1 hb
  rfl
theorem tabTo_succ {i : Nat} (h : i < 256) : (tabTo i).set i ((crcN 8 i : Nat) : Int) = tabTo (i + 1) := by
  apply List.ext_getElem?
  intro j
  rw [List.getElem?_set]
  unfold tabTo
  simp only [List.getElem?_map, List.length_map, List.length_range]
  by_cases hj : j < 256
  · rw [List.getElem?_range hj]
    by_cases hij : i = j
    · subst hij; simp [h]
    · simp [hij]; congr 1; rw [eq_iff_iff]; omega
  · rw [List.getElem?_eq_none (by simp; omega)]
    by_cases hij : i = j
    · omega
    · simp [hij]
theorem tabTo_at {j : Nat} (h : j < 256) : (tabTo 256).getD j 0 = ((crcN 8 j : Nat) : Int) := by
  unfold tabTo; simp [h]
set_option maxRecDepth 100000 in
set_option maxHeartbeats 1000000 in
theorem refImageSum_any (v : Value) (l : List Int) (w : World) (B : Nat) (hB : B ≤ w.heap.size) (h : IsInts .u8 w B v l) :
    Calls Try.prog 46 #[v] w fun e w' => e = .returned (.int .i64 (4294967295 - ((crcTo l l.length : Nat) : Int))) ∧ Below w.heap.size w w' := by
  obtain ⟨A, c, rfl, hc, hm, hn, hr, hw⟩ := h
  have HW := Lib.hid (byte_at hw)
  have HL := Lib.hid (crcTo_lt (l := l) (fun i => by have := byte_at hw i; omega))
  have hmk := fun w' => run_make1 el_u32 rfl 256 256 rfl (by omega) (by omega) w'
  have HT0 := Lib.hid (IBlk.zeros (k := .u32) (t := 141) w 256)
  generalize (List.replicate 256 (Value.int .u32 0)).toArray = T0 at hmk HT0
  clear hw
  go_enter Try.func46, Try.ntmps46
  go_wp2_with fail
  clear hmk
  go_loopw [13] (fun iv wr => ∃ i : Nat, i ≤ 256 ∧ iv = .int .i64 i ∧ IBlk .u32 141 wr w.heap.size (tabTo i) ∧ Below w.heap.size w wr) (fun iv _ => 256 - (intOf iv).toNat)
  case atStart => exact ⟨0, by omega, rfl, by rw [tabTo_0]; exact HT0.out, (Below.refl _ _).alloc (Nat.le_refl _) _⟩
  case round =>
    obtain ⟨i, hi, rfl, hT, hbel⟩ := hrel
    have f0 := hT.frozen i
    by_cases hlt : i < 256
    · have k0 := hT.cell (i := i) (by rw [tabTo_length]; exact hlt)
      generalize (tabTo i).getD i 0 = old at *
      have HN := Lib.hid (hT.set i ((crcN 8 i : Nat) : Int))
      have HE := Lib.hid (tabTo_succ hlt)
      have HB := Lib.hid hbel
      clear hT hbel
      have hi32 : i < 4294967296 := by omega
      go_wp2_with fail
      go_loop [5, 6] (fun nv kv => ∃ k : Nat, k ≤ 8 ∧ kv = .int .i64 k ∧ nv = .int .u32 ((crcN k i : Nat) : Int)) (fun _ kv => 8 - (intOf kv).toNat)
      case atStart => exact ⟨0, by omega, rfl, by rw [crcN_0]⟩
      case round =>
        obtain ⟨k, hk, rfl, rfl⟩ := hrel
        have ht := crcN_lt hi32 k
        by_cases hk8 : k < 8
        · have hT := crcN_succ k i
          generalize crcN k i = t at *
          rcases Nat.mod_two_eq_zero_or_one t with h2 | h2
          · obtain ⟨ha, he⟩ := crc_even ht h2
            rw [← hT] at he
            have HT := Lib.hid he
            have t0 : ((t : Int) % 2 == 1) = false := by simp; omega
            clear hT h2 ha he
            go_wp2_with fail
            go_round
            case rel => exact ⟨k + 1, by omega, by go_num, vint HT.out⟩
            case measure => simp [intOf]; omega
          · obtain ⟨ha, hx2⟩ := crc_odd ht h2
            have HT := Lib.hid hT
            have t0 : ((t : Int) % 2 == 1) = true := by simp; omega
            clear hT h2 ha
            go_wp2_with fail
            go_round
            case rel => exact ⟨k + 1, by omega, by go_num, by rw [HT.out]⟩
            case measure => simp [intOf]; omega
        · obtain rfl : k = 8 := by omega
          generalize crcN 8 i = t at *
          go_wp2_with fail
          go_roundw
          case rel => exact ⟨i + 1, by omega, by go_num, by rw [← HE.out]; exact HN.out, HB.out.setCell (p := ⟨w.heap.size, i, none⟩) (Nat.le_refl _) _⟩
          case measure => simp [intOf]; omega
    · obtain rfl : i = 256 := by omega
      have HT := Lib.hid hT
      have HB := Lib.hid hbel
      obtain ⟨wo, rfl⟩ : ∃ wo : World, wo = wr := ⟨_, rfl⟩
      clear hT hbel f0
      go_wp2_with fail
      go_loop [7, 37] (fun nv iv => ∃ i : Nat, i ≤ l.length ∧ iv = .int .i64 i ∧ nv = .int .u32 ((crcTo l i : Nat) : Int)) (fun _ iv => l.length - (intOf iv).toNat)
      case atStart => exact ⟨0, by omega, rfl, by rw [crcTo_0]; rfl⟩
      case round =>
        obtain ⟨i, hi, rfl, rfl⟩ := hrel
        have hlt32 := HL.out i
        by_cases hlt : i < l.length
        · obtain ⟨b, off, rfl, hb, hcells⟩ := ints_cells hr (by omega)
          have k0 := (HB.out.cell (p := ⟨b, off + i, none⟩) (by simp; omega)).trans (hcells i hlt)
          have hS := crcTo_succ l i
          obtain ⟨x0, x1⟩ := HW.out i
          obtain ⟨x, hx⟩ := Int.eq_ofNat_of_zero_le x0
          rw [hx] at k0 x1 hS
          rw [Int.toNat_natCast] at hS
          generalize crcTo l i = n at *
          rw [crc_table n x (by omega)] at hS
          have ex := xor_u8 (n % 256) x (by omega) (by omega)
          have e1 : ((n % 256 : Nat) : Int) = (n : Int) % 256 := by omega
          rw [e1] at ex
          have hj : n % 256 ^^^ x < 256 := Nat.xor_lt_two_pow (n := 8) (by omega) (by omega)
          have ht := crcN_lt (n := n % 256 ^^^ x) (by omega) 8
          generalize n % 256 ^^^ x = j at *
          have k1 := HT.out.cell (i := j) (by rw [tabTo_length]; exact hj)
          rw [tabTo_at hj] at k1
          generalize crcN 8 j = t at *
          have ey := xor_u32 t (n / 256) ht (by omega)
          have e2 : ((n / 256 : Nat) : Int) = (n : Int) / 256 := by omega
          rw [e2] at ey
          have HS := Lib.hid hS
          clear hS hcells hx x0 e1 e2
          go_wp2_with fail
          go_round
          case rel => exact ⟨i + 1, by omega, by go_num, by rw [HS.out]⟩
          case measure => simp [intOf]; omega
        · obtain rfl : i = l.length := by omega
          obtain ⟨n, hn'⟩ : ∃ n, n = crcTo l l.length := ⟨_, rfl⟩
          rw [← hn'] at hlt32 ⊢
          have HN := Lib.hid hn'
          clear hn'
          go_wp2_with fail
          go_ret
          exact ⟨ret_int (by rw [HN.out]), HB.out⟩
end Go.Proofs.Ytaipnjoeejgnnaa
