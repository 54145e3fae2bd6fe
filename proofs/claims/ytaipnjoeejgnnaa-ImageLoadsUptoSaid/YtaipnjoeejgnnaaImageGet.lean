/-
  Contracts of image.get and image.unfold: a number at the beginning of bytes. Conditions: the bytes can be read as data.
-/
import Derived.Test.YtaipnjoeejgnnaaLoadLaw
import Derived.Test.YtaipnjoeejgnnaaSameBytes
import Derived.IntWalk
namespace Go.Dam
open Go Go.RowKit
set_option linter.unusedVariables false
theorem IsInts.drop_ {k : IntKind} {w : World} {B c i : Nat} {A : Option Addr} {l : List Int} (h : IsInts k w B (.slice A l.length c) l) (hi : i ≤ l.length) : IsInts k w B (.slice (if c = i then A else A.map (·.add i)) (l.length - i) (c - i)) (l.drop i) := by
  obtain ⟨A', c', hv, h1, h2, h3, h4, h5⟩ := h
  obtain ⟨rfl, rfl⟩ : A = A' ∧ c = c' := by injection hv with a b c; exact ⟨a, c⟩
  refine ⟨_, c - i, by rw [List.length_drop], by rw [List.length_drop]; omega, by omega, by rw [List.length_drop]; omega, ?_, fun z hz => h5 z (List.mem_of_mem_drop hz)⟩
  have := h4.cut hi h1
  rw [Nat.mul_one, ← List.map_drop] at this
  rw [List.length_drop]; exact this
theorem or_disj {a b k Q : Nat} (hQ : Q = 2 ^ k) (h : a < Q) : a ||| b * Q = a + b * Q := by
  have := Nat.two_pow_add_eq_or_of_lt (i := k) (b := a) (by rw [← hQ]; exact h) b
  rw [← hQ, Nat.mul_comm Q b] at this
  rw [Nat.or_comm, ← this, Nat.add_comm]
theorem and127_u8 (a : Nat) (ha : a < 256) : bits .and .u8 (a : Int) 127 = ((a % 128 : Nat) : Int) := by
  have hx : a &&& 127 < 2 ^ 8 := Nat.and_lt_two_pow _ (by decide)
  have e : ((127 : Nat) : Int) = 127 := rfl
  rw [← e]
  show IntKind.u8.wrap ((BitVec.ofInt 8 (a : Int) &&& BitVec.ofInt 8 ((127 : Nat) : Int)).toNat : Int) = _
  rw [BitVec.toNat_and, ofInt_n 8 a (by omega), ofInt_n 8 127 (by omega), wrap_u8]
  have : a &&& 127 = a % 128 := by
    have := Nat.and_two_pow_sub_one_eq_mod a 7
    simpa using this
  rw [this]; omega
end Go.Dam
namespace Go.Proofs.Ytaipnjoeejgnnaa
open Go Go.RowKit Go.Dam
set_option linter.unusedVariables false
/-- What get returns. -/
def GetsNum (r : List Int) (B : Nat) (w : World) (e : Ending) (w' : World) : Prop :=
  (∃ m rest v', GetR r m rest ∧ m ≤ 268435455 ∧ e = .returned (.tuple #[.int .i64 (m : Nat), v', .bool true]) ∧ IsInts .u8 w' B v' rest ∧ Drawn w w') ∨
  ((∀ m rest, ¬ GetR r m rest) ∧ ∃ (x : Int) (A : Option Addr) (n c : Nat), e = .returned (.tuple #[.int .i64 x, .slice A n c, .bool false]) ∧ Drawn w w')
set_option maxHeartbeats 400000 in
theorem imgUnfold_any (m : Nat) (w : World) (h : m ≤ 268435455) :
    Calls Try.prog 99 #[.int .i64 (m : Nat)] w fun e w' => e = .returned (.int .i64 (unfoldN m)) ∧ w = w' := by
  by_cases h1 : m % 2 = 1
  · have HF := Lib.hid (unfoldN_odd h1)
    have t0 : ((m : Int) % 2 == 1) = true := by simp; omega
    have e : (-((m : Int) + 1)).tdiv 2 = -((m : Int) / 2 + 1) := by rw [Int.neg_tdiv, Int.tdiv_eq_ediv_of_nonneg (by omega)]; omega
    go_enter Try.func99, Try.ntmps99
    go_wp2_with fail
    go_ret
    exact ⟨ret_int (by rw [HF.out]; omega), rfl⟩
  · have HF := Lib.hid (unfoldN_even h1)
    have t0 : ((m : Int) % 2 == 1) = false := by rw [beq_eq_false_iff_ne]; omega
    go_enter Try.func99, Try.ntmps99
    go_wp2_with fail
    go_ret
    exact ⟨ret_int (by rw [HF.out]; omega), rfl⟩
set_option maxRecDepth 100000 in
set_option maxHeartbeats 1000000 in
theorem imgGet_any (v : Value) (r : List Int) (w : World) (B : Nat) (h : IsInts .u8 w B v r) :
    Calls Try.prog 98 #[v] w (GetsNum r B w) := by
  have HI0 := Lib.hid h
  obtain ⟨A, c, rfl, hc, hm, hn, hr, hw⟩ := h
  have HI := Lib.hid fun i (hi : i ≤ r.length) => HI0.out.drop_ hi
  have HW := Lib.hid (byte_at hw)
  have HBy : Hid (∀ z ∈ r, 0 ≤ z ∧ z ≤ 255) := Lib.hid fun z hz => wf_u8 (hw z hz)
  clear hw HI0
  go_enter Try.func98, Try.ntmps98
  go_wp2_with fail
  go_loop [5, 6] (fun nv iv => ∃ i : Nat, i ≤ 4 ∧ i ≤ r.length ∧ iv = .int .i64 i ∧ nv = .int .i64 (valL r i : Nat) ∧ ∀ j, j < i → 128 ≤ r.getD j 0) (fun _ iv => 4 - (intOf iv).toNat)
  case atStart => exact ⟨0, by omega, by omega, rfl, by rw [valL_0]; rfl, fun j hj => absurd hj (by omega)⟩
  case round =>
    obtain ⟨i, hi4, hil, rfl, rfl, hhi⟩ := hrel
    have HHi := Lib.hid hhi
    have hvl := valL_lt r i
    clear hhi
    by_cases hlt : i < r.length ∧ i < 4
    · obtain ⟨hlr, hl4⟩ := hlt
      obtain ⟨b, off, rfl, hb, hcells⟩ := ints_cells hr (by omega)
      have k0 := hcells i hlr
      have hxb := HW.out i
      have HS := Lib.hid (valL_succ r i)
      have HX : Hid (∃ x : Nat, r.getD i 0 = x) := Lib.hid (Int.eq_ofNat_of_zero_le hxb.1)
      obtain ⟨x, hx⟩ := HX.out
      have HXe := Lib.hid hx
      rw [hx] at k0 hxb
      have hQ : (2 : Nat) ^ (7 * i) = 128 ^ i := by rw [Nat.pow_mul]
      have hQb : 128 ^ i ≤ 2097152 := by
        have := Nat.pow_le_pow_right (show 0 < 128 by decide) (show i ≤ 3 by omega)
        omega
      have e1 : bits .and .u8 (x : Int) 127 = (x : Int) % 128 := by rw [and127_u8 x (by omega)]; omega
      have e2 : (2 : Int) ^ (7 * i) = ((128 ^ i : Nat) : Int) := by rw [← hQ]; simp
      have hxm : x % 128 * 128 ^ i ≤ 127 * 128 ^ i := Nat.mul_le_mul_right _ (by omega)
      have ec : (x : Int) % 128 * ((128 ^ i : Nat) : Int) = ((x % 128 * 128 ^ i : Nat) : Int) := by rw [Int.natCast_mul]; congr 1
      have e3 : bits .or .i64 ((valL r i : Nat) : Int) ((x : Int) % 128 * ((128 ^ i : Nat) : Int)) = ((valL r (i + 1) : Nat) : Int) := by
        rw [ec, i64_or_nat _ _ (by omega) (by omega), or_disj hQ.symm hvl, HS.out, HXe.out, Int.toNat_natCast]
      have hv2 := valL_lt r (i + 1)
      have hQ2 : (128 : Nat) ^ (i + 1) = 128 ^ i * 128 := Nat.pow_succ ..
      clear hcells hx hQ
      generalize (128 : Nat) ^ i = Q at *
      have eb1 : 0 ≤ (x : Int) % 128 * (Q : Int) := by omega
      have eb2 : (x : Int) % 128 * (Q : Int) ≤ 268435455 := by omega
      have ew : wrap64 ((x : Int) % 128 * (Q : Int)) = (x : Int) % 128 * (Q : Int) := by unfold wrap64; omega
      have hv4 : valL r (i + 1) ≤ 268435455 := by omega
      clear ec hxm hvl hQ2 hv2
      generalize hv9 : valL r (i + 1) = V at *
      have HV9 := Lib.hid hv9
      clear hv9
      by_cases hx : 128 ≤ x
      · go_wp2_with fail
        go_round
        case rel => exact ⟨i + 1, by omega, by omega, by go_num, by rw [HV9.out], fun j hj => by
          rcases Nat.lt_or_ge j i with g | g
          · exact HHi.out j g
          · rw [show j = i from by omega, HXe.out]; omega⟩
        case measure => simp [intOf]; omega
      · have HI1 := Lib.hid (HI.out (i + 1) (by omega))
        have HGe := Lib.hid fun h => getR_yes (i := i) HBy.out hlr hl4 HHi.out (by rw [HXe.out]; omega) h
        have HNo := Lib.hid fun h => getR_needless (i := i) hlr HHi.out (by rw [HXe.out]; omega) h
        rw [HV9.out] at HGe
        have w1 : IntKind.i64.wrap ((i : Int) + 1) = (i : Int) + 1 := IntWalk.i64_in _ (by omega)
        have w2 : (0 : Int) ≤ (i : Int) + 1 := by omega
        have w3 : ((i : Int) + 1).toNat = i + 1 := by omega
        have w4 : i + 1 ≤ c := by omega
        have w5 : (i : Int) + 1 ≤ (r.length : Int) := by omega
        have w6 : (i : Int) + 1 ≤ (c : Int) := by omega
        have w7 : (r.length : Int) ≤ (c : Int) := by omega
        have hadd : (⟨b, off, none⟩ : Addr).add (i + 1) = ⟨b, off + (i + 1), none⟩ := by unfold Addr.add; rw [if_neg (by omega)]
        have hres : ∀ A', (if c = i + 1 then some (⟨b, off, none⟩ : Addr) else (some (⟨b, off, none⟩ : Addr)).map (·.add (i + 1))) = A' → IsInts .u8 w B (.slice A' (r.length - (i + 1)) (c - (i + 1))) (r.drop (i + 1)) := fun A' h => by rw [← h]; exact HI1.out
        have HRes := Lib.hid hres
        have HAdd := Lib.hid hadd
        have hcase : (i = 0 ∧ (i = 0 ∨ 0 < x)) ∨ (i ≠ 0 ∧ 0 < x) ∨ (i ≠ 0 ∧ x = 0) := by omega
        have HX0 := Lib.hid hcase
        clear hres hadd hcase HI HI1
        have HDec := Lib.hid (Classical.em (c = i + 1))
        have HPost : Hid (∀ A' c', (if c = i + 1 then some (⟨b, off, none⟩ : Addr) else (some (⟨b, off, none⟩ : Addr)).map (·.add (i + 1))) = A' → c - (i + 1) = c' → (i = 0 ∨ 0 < x) → ∀ n, GetsNum r B w (.returned (.tuple #[.int .i64 (V : Nat), .slice A' (r.length - (i + 1)) c', .bool true])) (w.drewN n)) := Lib.hid fun A' c' hA hc' hz n => by
          subst hc'
          refine .inl ⟨V, _, _, HGe.out (by rw [HXe.out]; omega), hv4, rfl, ?_, ⟨n, rfl⟩⟩
          exact HRes.out A' hA
        have HPost2 : Hid (i ≠ 0 → x = 0 → ∀ A' n1 c1 n, GetsNum r B w (.returned (.tuple #[.int .i64 (V : Nat), .slice A' n1 c1, .bool false])) (w.drewN n)) := Lib.hid fun h1 h2 A' n1 c1 n => .inr ⟨fun m rest => HNo.out ⟨h1, by rw [HXe.out]; omega⟩ m rest, _, _, _, _, rfl, ⟨n, rfl⟩⟩
        clear HGe HNo HRes
        rcases HX0.out with ⟨h0, hz⟩ | ⟨h0, hz⟩ | ⟨h0, hz⟩
        · have t0 : ((i : Int) == 0) = true := by simp; omega
          have HZ := Lib.hid hz
          clear hz h0
          rcases HDec.out with hd | hd
          all_goals
            have HD := Lib.hid hd
            go_wp2_with fail
            go_quiet (fail)
            go_wp2_with fail
            go_ret3
            first
              | exact HPost.out (some ⟨b, off, none⟩) 0 (if_pos HD.out) (by have := HD.out; omega) HZ.out _
              | exact HPost.out (some ⟨b, off + (i + 1), none⟩) (c - (i + 1)) ((if_neg HD.out).trans (by rw [Option.map_some, HAdd.out])) rfl HZ.out _
        · have t0 : ((i : Int) == 0) = false := by rw [beq_eq_false_iff_ne]; omega
          have t1 : decide (0 < x) = true := by simp; omega
          have HZ : Hid (i = 0 ∨ 0 < x) := Lib.hid (.inr hz)
          clear hz h0
          rcases HDec.out with hd | hd
          all_goals
            have HD := Lib.hid hd
            go_wp2_with fail
            go_quiet (fail)
            go_wp2_with fail
            go_ret3
            first
              | exact HPost.out (some ⟨b, off, none⟩) 0 (if_pos HD.out) (by have := HD.out; omega) HZ.out _
              | exact HPost.out (some ⟨b, off + (i + 1), none⟩) (c - (i + 1)) ((if_neg HD.out).trans (by rw [Option.map_some, HAdd.out])) rfl HZ.out _
        · have t0 : ((i : Int) == 0) = false := by rw [beq_eq_false_iff_ne]; omega
          have t1 : decide (0 < x) = false := by simp; omega
          have HZ := Lib.hid hz
          have HN0 := Lib.hid h0
          clear hz h0
          rcases HDec.out with hd | hd
          all_goals
            have HD := Lib.hid hd
            go_wp2_with fail
            go_quiet (fail)
            go_wp2_with fail
            go_ret3
            first
              | exact HPost2.out HN0.out HZ.out (some ⟨b, off, none⟩) (r.length - (i + 1)) 0 _
              | exact HPost2.out HN0.out HZ.out (some ⟨b, off + (i + 1), none⟩) (r.length - (i + 1)) (c - (i + 1)) _
    · have HNo := Lib.hid fun h => getR_long (r := r) (i := i) h HHi.out
      have hcase : i = 4 ∨ i = r.length := by omega
      have HC := Lib.hid hcase
      have hge : r.length ≤ i ∨ (i < r.length ∧ 4 ≤ i) := by omega
      clear hlt hcase hr
      rcases hge with hge | ⟨hge1, hge2⟩
      all_goals
        go_wp2_with fail
        go_ret3
        exact .inr ⟨HNo.out HC.out, 0, none, 0, 0, rfl, Drawn.refl _⟩
end Go.Proofs.Ytaipnjoeejgnnaa
