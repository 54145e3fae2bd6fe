/-
  Texts of one claim behind each other. Conditions: none of its own.
-/
import Derived.Test.YthiccmncdmohbaaGreatMGridTops04
import Derived.Test.YthiccmncdmohbaaGreatMGridTops00
import Derived.Test.YthiccmncdmohbaaGreatMGridTops03
import Derived.Test.YthiccmncdmohbaaGreatMGridTops24
set_option linter.unusedVariables false
set_option linter.unusedSimpArgs false
/-
  Contract of the library's Clone at []int: a row of the call's own. Conditions: the list can be read as data.
-/
namespace Go.Dam
open Go Go.RowKit
/-- An empty row in a block of its own. -/
theorem own_empty (w : World) (t : TypeId) : (w.alloc (.cells #[] t)).ownsRow w.heap.size t 1 (.slice (some ⟨w.heap.size, 0, none⟩) 0 0) 0 [] :=
  ⟨rfl, .inr ⟨w.heap.size, 0, #[], rfl, Nat.le_refl _, heap_alloc_new w _, Nat.le_refl _, by unfold maxLen; omega, rfl, rfl⟩⟩
end Go.Dam
namespace Go.Proofs.YthiccmncdmohbaaGreat
open Go Go.RowKit Go.Dam
set_option linter.unusedVariables false
/-- A row of the call's own is returned; nil only if the list is empty. -/
def GivesOwn (l : List Int) (w : World) (e : Ending) (w' : World) : Prop := ∃ v, e = .returned v ∧ w'.ownsRow w.heap.size 3 1 v l.length (l.map (Value.int .i64)) ∧ Below w.heap.size w w'
set_option maxHeartbeats 400000 in
theorem cloneInts_any (v : Value) (l : List Int) (w : World) (B : Nat) (hB : B ≤ w.heap.size) (h : IsInts .i64 w B v l) (hlen : l.length ≤ 1000000) :
    Calls Tryz.prog 45 #[v] w (GivesOwn l w) := by
  obtain ⟨A, c, rfl, hc, hm, hn, hr, hw⟩ := h
  cases A with
  | none =>
    have hl : l = [] := by
      rcases Nat.eq_zero_or_pos l.length with h0 | h0
      · exact List.eq_nil_of_length_eq_zero h0
      · obtain ⟨ad, h1, _⟩ := hr.2 h0
        cases h1
    subst hl
    clear hr hw
    have heq := fun w => Lib.run_eql_slice_nil (P := Tryz.prog) w 25 3 none 0 c 0 0 Tryz.underlying25
    go_enter Tryz.func45, Tryz.ntmps45
    go_wp2_with fail
    go_ret
    exact ⟨_, rfl, World.ownsRow_nil _ _ _ _, Below.refl _ _⟩
  | some ad =>
    have heq := fun w => Lib.run_eql_slice_nil (P := Tryz.prog) w 25 3 (some ad) l.length c 0 0 Tryz.underlying25
    have HO : Hid ((w.alloc (.cells #[] 3)).ownsRow w.heap.size 3 1 (.slice (some ⟨w.heap.size, 0, none⟩) 0 0) 0 []) := Lib.hid (own_empty w _)
    have HN : Hid (∀ j u, (l.map (Value.int .i64))[j]? = some u → (w.alloc (.cells #[] 3)).cell? (ad.add j) = some u) := Lib.hid fun j u hu => by
      have hj : j < l.length := by
        have := (List.getElem?_eq_some_iff.1 hu).1
        simpa using this
      obtain ⟨ad', e1, hb, hcell⟩ := hr.2 (by omega)
      injection e1 with e1
      subst e1
      exact (World.cell?_alloc_lt w _ _ (by rw [block_of_add]; omega)).trans (hcell j u hu)
    have H1 : Hid (∀ u ∈ l.map (Value.int .i64), u.oneCell' = true) := Lib.hid fun u hu => by
      obtain ⟨x, _, rfl⟩ := List.mem_map.1 hu
      rfl
    clear hr hw
    go_enter Tryz.func45, Tryz.ntmps45
    go_wp2_with (at_builtin; refine wpList_pushM el_int rfl (.tmp 5) (.tmp 6) rfl w.heap.size _ 0 [] HO.out rfl ad l.length c (l.map (Value.int .i64)) rfl (by simp) HN.out H1.out (by omega) (by omega) (by simp) ?_; intro v' w2 hown2 hg2 hl2)
    go_ret
    refine ⟨_, rfl, by simpa using hown2, ?_⟩
    exact (((Below.refl w.heap.size w).alloc (Nat.le_refl _) (.cells #[] 3))).grown hg2 (by simp) fun k hk => by
      simp only [Value.ownBlock, Option.some.injEq] at hk; omega
end Go.Proofs.YthiccmncdmohbaaGreat

/-
  Contract of the law's own helper sameBytes: two slices of bytes that read alike are found alike; and the form of a result that is bytes with a code. Conditions: both read as the same bytes.
-/
namespace Go.Dam
open Go Go.RowKit
/-- Bytes and a code are returned, the bytes' cells below the world's end; no old memory is changed. -/
def GivesBytes (l : List Int) (c : Int) (w : World) (e : Ending) (w' : World) : Prop := ∃ v, e = .returned (.tuple #[v, .int .i64 c]) ∧ IsInts .u8 w' w'.heap.size v l ∧ Below w.heap.size w w'
theorem isBytes_nil (k : IntKind) (w : World) (B : Nat) : IsInts k w B (.slice none 0 0) [] :=
  ⟨none, 0, rfl, by simp, by unfold maxLen; omega, by simp, ⟨by simp, fun h => absurd h (by simp)⟩, fun z hz => by cases hz⟩
theorem IsInts.openB {k : IntKind} {w : World} {B : Nat} {v : Value} {l : List Int} (h : IsInts k w B v l) {n : Nat} (hn : l.length = n) : ∃ A c, v = .slice A n c ∧ n ≤ c ∧ c ≤ maxLen ∧ Reads w B 1 A l.length (l.map (Value.int k)) := by
  subst hn
  obtain ⟨A, c, rfl, h1, h2, _, h3, _⟩ := h
  exact ⟨A, c, rfl, h1, h2, h3⟩
end Go.Dam
namespace Go.Proofs.YthiccmncdmohbaaGreat
open Go Go.RowKit Go.Dam
set_option linter.unusedVariables false
end Go.Proofs.YthiccmncdmohbaaGreat

/-
  Contract of ranks.Make (with slices.Sorted over slices.Values): the values of a list and the ranks of its numbers, or the code of what is refused. Conditions: the list can be read as data.
-/
namespace Go.Dam
open Go Go.RowKit
/-- What Make answers: values, ranks and a code. -/
def RankAns (l vs rs : List Int) (c : Int) : Prop := (300 < l.length ∧ vs = [] ∧ rs = [] ∧ c = 1) ∨ (l.length ≤ 300 ∧ RankR l vs rs ∧ c = 0)
theorem RankAns.ex (l : List Int) : ∃ vs rs c, RankAns l vs rs c := by
  by_cases h : 300 < l.length
  · exact ⟨_, _, _, .inl ⟨h, rfl, rfl, rfl⟩⟩
  · obtain ⟨vs, rs, g⟩ := RankR.ex l
    exact ⟨vs, rs, 0, .inr ⟨by omega, g, rfl⟩⟩
/-- Two lists and a code are returned. -/
def Gives2 (a b : List Int) (c : Int) (w : World) (e : Ending) (w' : World) : Prop := ∃ u v, e = .returned (.tuple #[u, v, .int .i64 c]) ∧ IsInts .i64 w' w'.heap.size u a ∧ IsInts .i64 w' w'.heap.size v b ∧ Below w.heap.size w w'
theorem RankR.i64 {l vs rs : List Int} (h : RankR l vs rs) (hl : ∀ z ∈ l, (Lit.int .i64 z).wf = true) (hn : l.length ≤ 300) : (∀ z ∈ vs, (Lit.int .i64 z).wf = true) ∧ ∀ z ∈ rs, (Lit.int .i64 z).wf = true := by
  refine ⟨fun z hz => hl z ((h.1.2 z).1 hz), fun z hz => ?_⟩
  obtain ⟨i, hi, rfl⟩ := List.mem_iff_getElem.1 hz
  obtain ⟨k, e, hk⟩ := h.2.2 i (by rw [← h.2.1]; exact hi)
  rw [List.getD_eq_getElem?_getD, List.getElem?_eq_getElem hi] at e
  simp only [Option.getD_some] at e
  rw [e]
  have := hk.1; have := h.1.len
  simp [Lit.wf, IntKind.min, IntKind.max, IntKind.signed, IntKind.bits]; omega
end Go.Dam
namespace Go.Proofs.YthiccmncdmohbaaGreat
open Go Go.RowKit Go.Dam
set_option linter.unusedVariables false
set_option maxHeartbeats 1000000 in
theorem seqSorted_any (Bs : Nat) (sv : Value) (xs : List Int) (hlen : xs.length ≤ 1000000) (w : World) (hBs : Bs < w.heap.size) (hc : w.cell? ⟨Bs, 0, none⟩ = some sv) (hI : SeqInts w.heap.size w sv xs) :
    Calls Tryz.prog 42 #[.func (.func 73) #[] #[.pointer (some ⟨Bs, 0, none⟩)]] w fun e W' => ∃ v, e = .returned v ∧ W'.ownsRow w.heap.size 3 1 v xs.length ((sortI xs).map (Value.int .i64)) ∧ Below w.heap.size w W' := by
  have HA := Lib.hid (seqCollect_any Bs sv xs hlen w hBs hc hI)
  clear hc hI
  go_enter Tryz.func42, Tryz.ntmps42
  go_wp2_with (first
    | (go_at_call 71; refine (HA.out).mono ?_; rintro e w1 ⟨v, rfl, hown, hb⟩; obtain ⟨A1, c1, rfl⟩ := own_shape hown; have HO := Lib.hid hown; have HB := Lib.hid hb; clear hown hb)
    | (go_at_call 72; refine (sortSlice_own HO.out (by omega)).mono ?_; rintro e w2 ⟨rfl, hown2, hg2⟩))
  go_ret
  exact ⟨_, rfl, hown2, HB.out.grown hg2 HB.out.size fun k hk => (HO.out.lt k hk).1⟩
theorem seqValues_any (a : Option Addr) (len cap : Nat) (w : World) :
    Calls Tryz.prog 43 #[.slice a len cap] w fun e w' => e = .returned (.func (.func 73) #[] #[.pointer (some ⟨w.heap.size, 0, none⟩)]) ∧ w' = w.alloc (.cells #[.slice a len cap] 25) :=
  (callsIn_wide (n := 6)).1 (seqValues Fence.wide 6 trivial rfl a len cap w)
set_option maxRecDepth 100000 in
set_option maxHeartbeats 2000000 in
theorem ranksMake_any (v : Value) (l vs rs : List Int) (cc : Int) (w : World) (B : Nat) (hB : B ≤ w.heap.size) (h : IsInts .i64 w B v l) (hR : RankAns l vs rs cc) :
    Calls Tryz.prog 29 #[v] w (Gives2 vs rs cc w) := by
  have HI := Lib.hid h
  have HSq := Lib.hid (IsInts.seq h)
  obtain ⟨A, c, rfl, hc, hm, hn, hr, hw⟩ := h
  rcases hR with ⟨h3, rfl, rfl, rfl⟩ | ⟨h3, hR, rfl⟩
  · have t0 : decide ((300 : Int) < (l.length : Int)) = true := decide_eq_true (by omega)
    clear hr hw
    go_enter Tryz.func29, Tryz.ntmps29
    go_wp2_with fail
    go_ret3
    exact ⟨_, _, rfl, isBytes_nil _ _ _, isBytes_nil _ _ _, Below.refl _ _⟩
  · have t0 : decide ((300 : Int) < (l.length : Int)) = false := decide_eq_false (by omega)
    have HR := Lib.hid hR
    have HW := Lib.hid (hR.i64 hw h3)
    have hvs : Lib.compact (sortI l) = vs := (valsR_compact l).uniq hR.1
    have HVs := Lib.hid hvs
    have hvl : vs.length ≤ l.length := hR.1.len
    have HRl := Lib.hid hR.2.1
    have E1 : Below w.heap.size w (w.alloc (.cells #[.slice A l.length c] 25)) := (Below.refl _ _).alloc (Nat.le_refl _) _
    have HE1 := Lib.hid E1
    have HSd := Lib.hid (seqSorted_any w.heap.size (.slice A l.length c) l (by omega) (w.alloc (.cells #[.slice A l.length c] 25)) (by simp) (by simp) ((HSq.out.below (E1.mono hB)).more (by simp; omega)))
    clear hR hw hvs E1
    go_enter Tryz.func29, Tryz.ntmps29
    have HV := Lib.hid (seqValues_any A l.length c w)
    go_wp2_with (first
      | (go_at_call 43; refine (HV.out).mono ?_; rintro e w1 ⟨rfl, rfl⟩)
      | (go_at_call 42; refine (HSd.out).mono ?_; rintro e w2 ⟨v2, rfl, hown2, hb2⟩; obtain ⟨A2, c2, rfl⟩ := own_shape hown2; have HO2 := Lib.hid hown2; have HB2 := Lib.hid hb2; clear hown2 hb2)
      | (go_at_call 41; refine (compact_own HO2.out (by omega)).mono ?_; rintro e w3 ⟨rfl, hown3, hg3⟩; rw [HVs.out] at hown3 ⊢; have HO3 := Lib.hid hown3; have HG3 := Lib.hid hg3; clear hown3 hg3))
    have HI3 := Lib.hid (own_ints HO3.out (by omega) HW.out.1)
    have HB3 := Lib.hid ((HE1.out.trans (HB2.out.mono (by simp))).grown HG3.out (by have := HB2.out.size; simp at this; omega) (fun k hk => by have := (HO2.out.lt k hk).1; simp at this; omega))
    have hz3 := HB3.out.size
    clear HSd HV HO2 HB2 HG3 HE1 HSq
    go_loopw [3, 6, 16] (fun rv _ iv wr => ∃ i : Nat, i ≤ l.length ∧ iv = .int .i64 i ∧ wr.ownsRow w3.heap.size 3 1 rv i ((rs.take i).map (Value.int .i64)) ∧ Below w3.heap.size w3 wr) (fun _ _ iv _ => l.length - (intOf iv).toNat)
    case atStart => exact ⟨0, by omega, rfl, World.ownsRow_nil _ _ _ _, Below.refl _ _⟩
    case round =>
      obtain ⟨i, hi, rfl, hown, hb⟩ := hrel
      obtain ⟨A3, c3, rfl⟩ := own_shape hown
      have HO := Lib.hid hown
      have HB := Lib.hid hb
      have hz := hb.size
      by_cases hlt : i < l.length
      · have t1 : decide ((i : Int) < (l.length : Int)) = true := decide_eq_true (by omega)
        obtain ⟨bk, off, rfl, hbk, hcells⟩ := ints_cells hr (by omega)
        have k0 := (hb.cell (p := ⟨bk, off + i, none⟩) (by show bk < w3.heap.size; omega)).trans ((HB3.out.cell (p := ⟨bk, off + i, none⟩) (by show bk < w.heap.size; omega)).trans (hcells i hlt))
        have HT := Lib.hid fun k hk => HR.out.take hlt (k := k) hk
        have HS := Lib.hid (searchInts_any _ vs (l.getD i 0) wr _ (Nat.le_refl _) ((HI3.out.below hb).more hz) (by omega) HR.out.1.asc)
        generalize l.getD i 0 = x at *
        clear hown hb hcells hr
        go_wp2_with (first
          | (go_at_call 44; refine (HS.out).mono ?_; rintro e w5 ⟨⟨k, rfl, hk⟩, hb5⟩; have HK := Lib.hid hk; have HB5 := Lib.hid hb5; have HO5 := Lib.hid (own_size HO.out hb5); have hz5 := hb5.size; clear hk hb5)
          | (at_builtin; refine wpList_pushD el_int rfl (.tmp 20) (.tmp 24) rfl w3.heap.size _ i _ (HO5.out.alloc _) rfl w5.heap.size 1 _ rfl (new_cell rfl) rfl (by omega) (by omega) (by simp; omega) ?_; intro v6 w6 hown6 hg6 hl6))
        go_roundw
        case rel => exact ⟨i + 1, by omega, by go_num, by rw [HT.out k HK.out, List.map_append]; exact hown6, below_push ((HB.out.trans (HB5.out.mono hz)).alloc (by omega) _) (HO5.out.alloc _) (Nat.le_refl _) (by simp; omega) hg6⟩
        case measure => simp [intOf]; omega
      · obtain rfl : i = l.length := by omega
        have i6 : ¬ (l.length : Int) < (l.length : Int) := by omega
        have HCl := Lib.hid (cloneInts_any _ vs wr _ (Nat.le_refl _) ((HI3.out.below hb).more hz) (by omega))
        have hfull : rs.take l.length = rs := List.take_of_length_le (by rw [HRl.out]; exact Nat.le_refl _)
        rw [hfull] at HO
        clear hown hb hr hfull
        go_wp2_with (go_at_call 45; refine (HCl.out).mono ?_; rintro e w5 ⟨v5, rfl, hown5, hb5⟩; obtain ⟨A5, c5, rfl⟩ := own_shape hown5; have HO5 := Lib.hid hown5; have HB5 := Lib.hid hb5; clear hown5 hb5)
        go_ret3
        exact ⟨_, _, rfl, own_ints HO5.out (by omega) HW.out.1, own_ints (own_size HO.out HB5.out) (by rw [HRl.out]; omega) HW.out.2, HB3.out.trans ((HB.out.trans (HB5.out.mono hz)).mono hz3)⟩
end Go.Proofs.YthiccmncdmohbaaGreat
