/-
  Contract of ranks.Make (with slices.Sorted over slices.Values): the values of a list and the ranks of its numbers, or the code of what is refused. Conditions: the list can be read as data.
-/
import Derived.Test.YtnkflafkalmnmaaMTopUnits19
import Derived.Test.YtnkflafkalmnmaaMTopUnits43
import Derived.Test.YtnkflafkalmnmaaMTopUnits44
namespace Go.Dam
open Go Go.RowKit
/-- What Make answers: values, ranks and a code. -/
def RankAns (l vs rs : List Int) (c : Int) : Prop := (300 < l.length ∧ vs = [] ∧ rs = [] ∧ c = 1) ∨ (l.length ≤ 300 ∧ RankR l vs rs ∧ c = 0)
theorem RankAns.ex (l : List Int) : ∃ vs rs c, RankAns l vs rs c := by
  by_cases h : 300 < l.length
  · exact ⟨_, _, _, .inl ⟨h, rfl, rfl, rfl⟩⟩
  · obtain ⟨vs, rs, g⟩ := RankR.ex l
    exact ⟨vs, rs, 0, .inr ⟨by omega, g, rfl⟩⟩
/-- Two lists and a code are returned. -/
def Gives2 (a b : List Int) (c : Int) (w : World) (e : Ending) (w' : World) : Prop := ∃ u v, e = .returned (.tuple #[u, v, .int .i64 c]) ∧ IsInts .i64 w' w'.heap.size u a ∧ IsInts .i64 w' w'.heap.size v b ∧ Below w.heap.size w w'
theorem RankR.i64 {l vs rs : List Int} (h : RankR l vs rs) (hl : ∀ z ∈ l, (Lit.int .i64 z).wf = true) (hn : l.length ≤ 300) : (∀ z ∈ vs, (Lit.int .i64 z).wf = true) ∧ ∀ z ∈ rs, (Lit.int .i64 z).wf = true := by
  refine ⟨fun z hz => hl z ((h.1.2 z).1 hz), fun z hz => ?_⟩
  obtain ⟨i, hi, rfl⟩ := List.mem_iff_getElem.1 hz
  obtain ⟨k, e, hk⟩ := h.2.2 i (by rw [← h.2.1]; exact hi)
  rw [List.getD_eq_getElem?_getD, List.getElem?_eq_getElem hi] at e
  simp only [Option.getD_some] at e
  rw [e]
  have := hk.1; have := h.1.len
  simp [Lit.wf, IntKind.min, IntKind.max, IntKind.signed, IntKind.bits]; omega
end Go.Dam
namespace Go.Proofs.Ytnkflafkalmnmaa
open Go Go.RowKit Go.Dam
set_option linter.unusedVariables false
set_option maxHeartbeats 1000000 in
theorem seqSorted_any (Bs : Nat) (sv : Value) (xs : List Int) (hlen : xs.length ≤ 1000000) (w : World) (hBs : Bs < w.heap.size) (hc : w.cell? ⟨Bs, 0, none⟩ = some sv) (hI : SeqInts w.heap.size w sv xs) :
    Calls Try.prog 16 #[.func (.func 31) #[] #[.pointer (some ⟨Bs, 0, none⟩)]] w fun e W' => ∃ v, e = .returned v ∧ W'.ownsRow w.heap.size 3 1 v xs.length ((sortI xs).map (Value.int .i64)) ∧ Below w.heap.size w W' := by
  have HA := Lib.hid (seqCollect_any Bs sv xs hlen w hBs hc hI)
  clear hc hI
  go_enter Try.func16, Try.ntmps16
  go_wp2_with (first
    | (go_at_call 30; refine (HA.out).mono ?_; rintro e w1 ⟨v, rfl, hown, hb⟩; obtain ⟨A1, c1, rfl⟩ := own_shape hown; have HO := Lib.hid hown; have HB := Lib.hid hb; clear hown hb)
    | (go_at_call 24; refine (sortSlice_own HO.out (by omega)).mono ?_; rintro e w2 ⟨rfl, hown2, hg2⟩))
  go_ret
  exact ⟨_, rfl, hown2, HB.out.grown hg2 HB.out.size fun k hk => (HO.out.lt k hk).1⟩
theorem seqValues_any (a : Option Addr) (len cap : Nat) (w : World) :
    Calls Try.prog 17 #[.slice a len cap] w fun e w' => e = .returned (.func (.func 31) #[] #[.pointer (some ⟨w.heap.size, 0, none⟩)]) ∧ w' = w.alloc (.cells #[.slice a len cap] 28) :=
  (callsIn_wide (n := 6)).1 (seqValues Fence.wide 6 trivial rfl a len cap w)
set_option maxRecDepth 100000 in
set_option maxHeartbeats 2000000 in
theorem ranksMake_any (v : Value) (l vs rs : List Int) (cc : Int) (w : World) (B : Nat) (hB : B ≤ w.heap.size) (h : IsInts .i64 w B v l) (hR : RankAns l vs rs cc) :
    Calls Try.prog 7 #[v] w (Gives2 vs rs cc w) := by
  have HI := Lib.hid h
  have HSq := Lib.hid (IsInts.seq h)
  obtain ⟨A, c, rfl, hc, hm, hn, hr, hw⟩ := h
  rcases hR with ⟨h3, rfl, rfl, rfl⟩ | ⟨h3, hR, rfl⟩
  · have t0 : decide ((300 : Int) < (l.length : Int)) = true := decide_eq_true (by omega)
    clear hr hw
    go_enter Try.func7, Try.ntmps7
    go_wp2_with fail
    go_ret3
    exact ⟨_, _, rfl, isBytes_nil _ _ _, isBytes_nil _ _ _, Below.refl _ _⟩
  · have t0 : decide ((300 : Int) < (l.length : Int)) = false := decide_eq_false (by omega)
    have HR := Lib.hid hR
    have HW := Lib.hid (hR.i64 hw h3)
    have hvs : Lib.compact (sortI l) = vs := (valsR_compact l).uniq hR.1
    have HVs := Lib.hid hvs
    have hvl : vs.length ≤ l.length := hR.1.len
    have HRl := Lib.hid hR.2.1
    have E1 : Below w.heap.size w (w.alloc (.cells #[.slice A l.length c] 28)) := (Below.refl _ _).alloc (Nat.le_refl _) _
    have HE1 := Lib.hid E1
    have HSd := Lib.hid (seqSorted_any w.heap.size (.slice A l.length c) l (by omega) (w.alloc (.cells #[.slice A l.length c] 28)) (by simp) (by simp) ((HSq.out.below (E1.mono hB)).more (by simp; omega)))
    clear hR hw hvs E1
    go_enter Try.func7, Try.ntmps7
    have HV := Lib.hid (seqValues_any A l.length c w)
    go_wp2_with (first
      | (go_at_call 17; refine (HV.out).mono ?_; rintro e w1 ⟨rfl, rfl⟩)
      | (go_at_call 16; refine (HSd.out).mono ?_; rintro e w2 ⟨v2, rfl, hown2, hb2⟩; obtain ⟨A2, c2, rfl⟩ := own_shape hown2; have HO2 := Lib.hid hown2; have HB2 := Lib.hid hb2; clear hown2 hb2)
      | (go_at_call 15; refine (compact_own HO2.out (by omega)).mono ?_; rintro e w3 ⟨rfl, hown3, hg3⟩; rw [HVs.out] at hown3 ⊢; have HO3 := Lib.hid hown3; have HG3 := Lib.hid hg3; clear hown3 hg3))
    have HI3 := Lib.hid (own_ints HO3.out (by omega) HW.out.1)
    have HB3 := Lib.hid ((HE1.out.trans (HB2.out.mono (by simp))).grown HG3.out (by have := HB2.out.size; simp at this; omega) (fun k hk => by have := (HO2.out.lt k hk).1; simp at this; omega))
    have hz3 := HB3.out.size
    clear HSd HV HO2 HB2 HG3 HE1 HSq
    go_loopw [3, 6, 16] (fun rv _ iv wr => ∃ i : Nat, i ≤ l.length ∧ iv = .int .i64 i ∧ wr.ownsRow w3.heap.size 3 1 rv i ((rs.take i).map (Value.int .i64)) ∧ Below w3.heap.size w3 wr) (fun _ _ iv _ => l.length - (intOf iv).toNat)
    case atStart => exact ⟨0, by omega, rfl, World.ownsRow_nil _ _ _ _, Below.refl _ _⟩
    case round =>
      obtain ⟨i, hi, rfl, hown, hb⟩ := hrel
      obtain ⟨A3, c3, rfl⟩ := own_shape hown
      have HO := Lib.hid hown
      have HB := Lib.hid hb
      have hz := hb.size
      by_cases hlt : i < l.length
      · have t1 : decide ((i : Int) < (l.length : Int)) = true := decide_eq_true (by omega)
        obtain ⟨bk, off, rfl, hbk, hcells⟩ := ints_cells hr (by omega)
        have k0 := (hb.cell (p := ⟨bk, off + i, none⟩) (by show bk < w3.heap.size; omega)).trans ((HB3.out.cell (p := ⟨bk, off + i, none⟩) (by show bk < w.heap.size; omega)).trans (hcells i hlt))
        have HT := Lib.hid fun k hk => HR.out.take hlt (k := k) hk
        have HS := Lib.hid (searchInts_any _ vs (l.getD i 0) wr _ (Nat.le_refl _) ((HI3.out.below hb).more hz) (by omega) HR.out.1.asc)
        generalize l.getD i 0 = x at *
        clear hown hb hcells hr
        go_wp2_with (first
          | (go_at_call 18; refine (HS.out).mono ?_; rintro e w5 ⟨⟨k, rfl, hk⟩, hb5⟩; have HK := Lib.hid hk; have HB5 := Lib.hid hb5; have HO5 := Lib.hid (own_size HO.out hb5); have hz5 := hb5.size; clear hk hb5)
          | (at_builtin; refine wpList_pushD el_int rfl (.tmp 20) (.tmp 24) rfl w3.heap.size _ i _ (HO5.out.alloc _) rfl w5.heap.size 1 _ rfl (new_cell rfl) rfl (by omega) (by omega) (by simp; omega) ?_; intro v6 w6 hown6 hg6 hl6))
        go_roundw
        case rel => exact ⟨i + 1, by omega, by go_num, by rw [HT.out k HK.out, List.map_append]; exact hown6, below_push ((HB.out.trans (HB5.out.mono hz)).alloc (by omega) _) (HO5.out.alloc _) (Nat.le_refl _) (by simp; omega) hg6⟩
        case measure => simp [intOf]; omega
      · obtain rfl : i = l.length := by omega
        have i6 : ¬ (l.length : Int) < (l.length : Int) := by omega
        have HCl := Lib.hid (cloneInts_any _ vs wr _ (Nat.le_refl _) ((HI3.out.below hb).more hz) (by omega))
        have hfull : rs.take l.length = rs := List.take_of_length_le (by rw [HRl.out]; exact Nat.le_refl _)
        rw [hfull] at HO
        clear hown hb hr hfull
        go_wp2_with (go_at_call 19; refine (HCl.out).mono ?_; rintro e w5 ⟨v5, rfl, hown5, hb5⟩; obtain ⟨A5, c5, rfl⟩ := own_shape hown5; have HO5 := Lib.hid hown5; have HB5 := Lib.hid hb5; clear hown5 hb5)
        go_ret3
        exact ⟨_, _, rfl, own_ints HO5.out (by omega) HW.out.1, own_ints (own_size HO.out HB5.out) (by rw [HRl.out]; omega) HW.out.2, HB3.out.trans ((HB.out.trans (HB5.out.mono hz)).mono hz3)⟩
end Go.Proofs.Ytnkflafkalmnmaa
