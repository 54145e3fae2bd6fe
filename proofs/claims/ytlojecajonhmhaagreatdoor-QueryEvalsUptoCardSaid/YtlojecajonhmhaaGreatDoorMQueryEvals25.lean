/-
  Texts of one claim behind each other. Conditions: none of its own.
-/
import Derived.Test.YtlojecajonhmhaaGreatDoorMQueryEvals05
import Derived.Test.YtlojecajonhmhaaGreatDoorMQueryEvals00
import Derived.Test.YtlojecajonhmhaaGreatDoorMQueryEvals02
import Derived.Test.YtlojecajonhmhaaGreatDoorMQueryEvals24
import Derived.Test.YtlojecajonhmhaaGreatDoorMQueryEvals06
set_option linter.unusedVariables false
set_option linter.unusedSimpArgs false
/-
  Contract of the library's Clone at []int: a row of the call's own. Conditions: the list can be read as data.
-/
namespace Go.Dam
open Go Go.RowKit
/-- An empty row in a block of its own. -/
theorem own_empty (w : World) (t : TypeId) : (w.alloc (.cells #[] t)).ownsRow w.heap.size t 1 (.slice (some ⟨w.heap.size, 0, none⟩) 0 0) 0 [] :=
  ⟨rfl, .inr ⟨w.heap.size, 0, #[], rfl, Nat.le_refl _, heap_alloc_new w _, Nat.le_refl _, by unfold maxLen; omega, rfl, rfl⟩⟩
end Go.Dam
namespace Go.Proofs.YtlojecajonhmhaaGreatDoor
open Go Go.RowKit Go.Dam
set_option linter.unusedVariables false
/-- A row of the call's own is returned; nil only if the list is empty. -/
def GivesOwn (l : List Int) (w : World) (e : Ending) (w' : World) : Prop := ∃ v, e = .returned v ∧ w'.ownsRow w.heap.size 3 1 v l.length (l.map (Value.int .i64)) ∧ Below w.heap.size w w'
set_option maxHeartbeats 400000 in
theorem cloneInts_any (v : Value) (l : List Int) (w : World) (B : Nat) (hB : B ≤ w.heap.size) (h : IsInts .i64 w B v l) (hlen : l.length ≤ 1000000) :
    Calls Tryz.prog 54 #[v] w (GivesOwn l w) := by
  obtain ⟨A, c, rfl, hc, hm, hn, hr, hw⟩ := h
  cases A with
  | none =>
    have hl : l = [] := by
      rcases Nat.eq_zero_or_pos l.length with h0 | h0
      · exact List.eq_nil_of_length_eq_zero h0
      · obtain ⟨ad, h1, _⟩ := hr.2 h0
        cases h1
    subst hl
    clear hr hw
    have heq := fun w => Lib.run_eql_slice_nil (P := Tryz.prog) w 28 3 none 0 c 0 0 Tryz.underlying28
    go_enter Tryz.func54, Tryz.ntmps54
    go_wp2_with fail
    go_ret
    exact ⟨_, rfl, World.ownsRow_nil _ _ _ _, Below.refl _ _⟩
  | some ad =>
    have heq := fun w => Lib.run_eql_slice_nil (P := Tryz.prog) w 28 3 (some ad) l.length c 0 0 Tryz.underlying28
    have HO : Hid ((w.alloc (.cells #[] 3)).ownsRow w.heap.size 3 1 (.slice (some ⟨w.heap.size, 0, none⟩) 0 0) 0 []) := Lib.hid (own_empty w _)
    have HN : Hid (∀ j u, (l.map (Value.int .i64))[j]? = some u → (w.alloc (.cells #[] 3)).cell? (ad.add j) = some u) := Lib.hid fun j u hu => by
      have hj : j < l.length := by
        have := (List.getElem?_eq_some_iff.1 hu).1
        simpa using this
      obtain ⟨ad', e1, hb, hcell⟩ := hr.2 (by omega)
      injection e1 with e1
      subst e1
      exact (World.cell?_alloc_lt w _ _ (by rw [block_of_add]; omega)).trans (hcell j u hu)
    have H1 : Hid (∀ u ∈ l.map (Value.int .i64), u.oneCell' = true) := Lib.hid fun u hu => by
      obtain ⟨x, _, rfl⟩ := List.mem_map.1 hu
      rfl
    clear hr hw
    go_enter Tryz.func54, Tryz.ntmps54
    go_wp2_with (at_builtin; refine wpList_pushM el_int rfl (.tmp 5) (.tmp 6) rfl w.heap.size _ 0 [] HO.out rfl ad l.length c (l.map (Value.int .i64)) rfl (by simp) HN.out H1.out (by omega) (by omega) (by simp) ?_; intro v' w2 hown2 hg2 hl2)
    go_ret
    refine ⟨_, rfl, by simpa using hown2, ?_⟩
    exact (((Below.refl w.heap.size w).alloc (Nat.le_refl _) (.cells #[] 3))).grown hg2 (by simp) fun k hk => by
      simp only [Value.ownBlock, Option.some.injEq] at hk; omega
end Go.Proofs.YtlojecajonhmhaaGreatDoor

/-
  Contract of the law's own helper sameBytes: two slices of bytes that read alike are found alike; and the form of a result that is bytes with a code. Conditions: both read as the same bytes.
-/
namespace Go.Dam
open Go Go.RowKit
/-- Bytes and a code are returned, the bytes' cells below the world's end; no old memory is changed. -/
def GivesBytes (l : List Int) (c : Int) (w : World) (e : Ending) (w' : World) : Prop := ∃ v, e = .returned (.tuple #[v, .int .i64 c]) ∧ IsInts .u8 w' w'.heap.size v l ∧ Below w.heap.size w w'
theorem isBytes_nil (k : IntKind) (w : World) (B : Nat) : IsInts k w B (.slice none 0 0) [] :=
  ⟨none, 0, rfl, by simp, by unfold maxLen; omega, by simp, ⟨by simp, fun h => absurd h (by simp)⟩, fun z hz => by cases hz⟩
theorem IsInts.openB {k : IntKind} {w : World} {B : Nat} {v : Value} {l : List Int} (h : IsInts k w B v l) {n : Nat} (hn : l.length = n) : ∃ A c, v = .slice A n c ∧ n ≤ c ∧ c ≤ maxLen ∧ Reads w B 1 A l.length (l.map (Value.int k)) := by
  subst hn
  obtain ⟨A, c, rfl, h1, h2, _, h3, _⟩ := h
  exact ⟨A, c, rfl, h1, h2, h3⟩
end Go.Dam
namespace Go.Proofs.YtlojecajonhmhaaGreatDoor
open Go Go.RowKit Go.Dam
set_option linter.unusedVariables false
end Go.Proofs.YtlojecajonhmhaaGreatDoor

/-
  Contract of ranks.Make (with slices.Sorted over slices.Values): the values of a list and the ranks of its numbers, or the code of what is refused. Conditions: the list can be read as data.
-/
namespace Go.Dam
open Go Go.RowKit
/-- What Make answers: values, ranks and a code. -/
def RankAns (l vs rs : List Int) (c : Int) : Prop := (300 < l.length ∧ vs = [] ∧ rs = [] ∧ c = 1) ∨ (l.length ≤ 300 ∧ RankR l vs rs ∧ c = 0)
theorem RankAns.ex (l : List Int) : ∃ vs rs c, RankAns l vs rs c := by
  by_cases h : 300 < l.length
  · exact ⟨_, _, _, .inl ⟨h, rfl, rfl, rfl⟩⟩
  · obtain ⟨vs, rs, g⟩ := RankR.ex l
    exact ⟨vs, rs, 0, .inr ⟨by omega, g, rfl⟩⟩
/-- Two lists and a code are returned. -/
def Gives2 (a b : List Int) (c : Int) (w : World) (e : Ending) (w' : World) : Prop := ∃ u v, e = .returned (.tuple #[u, v, .int .i64 c]) ∧ IsInts .i64 w' w'.heap.size u a ∧ IsInts .i64 w' w'.heap.size v b ∧ Below w.heap.size w w'
theorem RankR.i64 {l vs rs : List Int} (h : RankR l vs rs) (hl : ∀ z ∈ l, (Lit.int .i64 z).wf = true) (hn : l.length ≤ 300) : (∀ z ∈ vs, (Lit.int .i64 z).wf = true) ∧ ∀ z ∈ rs, (Lit.int .i64 z).wf = true := by
  refine ⟨fun z hz => hl z ((h.1.2 z).1 hz), fun z hz => ?_⟩
  obtain ⟨i, hi, rfl⟩ := List.mem_iff_getElem.1 hz
  obtain ⟨k, e, hk⟩ := h.2.2 i (by rw [← h.2.1]; exact hi)
  rw [List.getD_eq_getElem?_getD, List.getElem?_eq_getElem hi] at e
  simp only [Option.getD_some] at e
  rw [e]
  have := hk.1; have := h.1.len
  simp [Lit.wf, IntKind.min, IntKind.max, IntKind.signed, IntKind.bits]; omega
end Go.Dam
namespace Go.Proofs.YtlojecajonhmhaaGreatDoor
open Go Go.RowKit Go.Dam
set_option linter.unusedVariables false
set_option maxHeartbeats 1000000 in
theorem seqSorted_any (Bs : Nat) (sv : Value) (xs : List Int) (hlen : xs.length ≤ 1000000) (w : World) (hBs : Bs < w.heap.size) (hc : w.cell? ⟨Bs, 0, none⟩ = some sv) (hI : SeqInts w.heap.size w sv xs) :
    Calls Tryz.prog 51 #[.func (.func 77) #[] #[.pointer (some ⟨Bs, 0, none⟩)]] w fun e W' => ∃ v, e = .returned v ∧ W'.ownsRow w.heap.size 3 1 v xs.length ((sortI xs).map (Value.int .i64)) ∧ Below w.heap.size w W' := by
  have HA := Lib.hid (seqCollect_any Bs sv xs hlen w hBs hc hI)
  clear hc hI
  go_enter Tryz.func51, Tryz.ntmps51
  go_wp2_with (first
    | (go_at_call 75; refine (HA.out).mono ?_; rintro e w1 ⟨v, rfl, hown, hb⟩; obtain ⟨A1, c1, rfl⟩ := own_shape hown; have HO := Lib.hid hown; have HB := Lib.hid hb; clear hown hb)
    | (go_at_call 76; refine (sortSlice_own HO.out (by omega)).mono ?_; rintro e w2 ⟨rfl, hown2, hg2⟩))
  go_ret
  exact ⟨_, rfl, hown2, HB.out.grown hg2 HB.out.size fun k hk => (HO.out.lt k hk).1⟩
theorem seqValues_any (a : Option Addr) (len cap : Nat) (w : World) :
    Calls Tryz.prog 52 #[.slice a len cap] w fun e w' => e = .returned (.func (.func 77) #[] #[.pointer (some ⟨w.heap.size, 0, none⟩)]) ∧ w' = w.alloc (.cells #[.slice a len cap] 28) :=
  (callsIn_wide (n := 6)).1 (seqValues Fence.wide 6 trivial rfl a len cap w)
set_option maxRecDepth 100000 in
set_option maxHeartbeats 2000000 in
theorem ranksMake_any (v : Value) (l vs rs : List Int) (cc : Int) (w : World) (B : Nat) (hB : B ≤ w.heap.size) (h : IsInts .i64 w B v l) (hR : RankAns l vs rs cc) :
    Calls Tryz.prog 40 #[v] w (Gives2 vs rs cc w) := by
  have HI := Lib.hid h
  have HSq := Lib.hid (IsInts.seq h)
  obtain ⟨A, c, rfl, hc, hm, hn, hr, hw⟩ := h
  rcases hR with ⟨h3, rfl, rfl, rfl⟩ | ⟨h3, hR, rfl⟩
  · have t0 : decide ((300 : Int) < (l.length : Int)) = true := decide_eq_true (by omega)
    clear hr hw
    go_enter Tryz.func40, Tryz.ntmps40
    go_wp2_with fail
    go_ret3
    exact ⟨_, _, rfl, isBytes_nil _ _ _, isBytes_nil _ _ _, Below.refl _ _⟩
  · have t0 : decide ((300 : Int) < (l.length : Int)) = false := decide_eq_false (by omega)
    have HR := Lib.hid hR
    have HW := Lib.hid (hR.i64 hw h3)
    have hvs : Lib.compact (sortI l) = vs := (valsR_compact l).uniq hR.1
    have HVs := Lib.hid hvs
    have hvl : vs.length ≤ l.length := hR.1.len
    have HRl := Lib.hid hR.2.1
    have E1 : Below w.heap.size w (w.alloc (.cells #[.slice A l.length c] 28)) := (Below.refl _ _).alloc (Nat.le_refl _) _
    have HE1 := Lib.hid E1
    have HSd := Lib.hid (seqSorted_any w.heap.size (.slice A l.length c) l (by omega) (w.alloc (.cells #[.slice A l.length c] 28)) (by simp) (by simp) ((HSq.out.below (E1.mono hB)).more (by simp; omega)))
    clear hR hw hvs E1
    go_enter Tryz.func40, Tryz.ntmps40
    have HV := Lib.hid (seqValues_any A l.length c w)
    go_wp2_with (first
      | (go_at_call 52; refine (HV.out).mono ?_; rintro e w1 ⟨rfl, rfl⟩)
      | (go_at_call 51; refine (HSd.out).mono ?_; rintro e w2 ⟨v2, rfl, hown2, hb2⟩; obtain ⟨A2, c2, rfl⟩ := own_shape hown2; have HO2 := Lib.hid hown2; have HB2 := Lib.hid hb2; clear hown2 hb2)
      | (go_at_call 50; refine (compact_own HO2.out (by omega)).mono ?_; rintro e w3 ⟨rfl, hown3, hg3⟩; rw [HVs.out] at hown3 ⊢; have HO3 := Lib.hid hown3; have HG3 := Lib.hid hg3; clear hown3 hg3))
    have HI3 := Lib.hid (own_ints HO3.out (by omega) HW.out.1)
    have HB3 := Lib.hid ((HE1.out.trans (HB2.out.mono (by simp))).grown HG3.out (by have := HB2.out.size; simp at this; omega) (fun k hk => by have := (HO2.out.lt k hk).1; simp at this; omega))
    have hz3 := HB3.out.size
    clear HSd HV HO2 HB2 HG3 HE1 HSq
    go_loopw [3, 6, 16] (fun rv _ iv wr => ∃ i : Nat, i ≤ l.length ∧ iv = .int .i64 i ∧ wr.ownsRow w3.heap.size 3 1 rv i ((rs.take i).map (Value.int .i64)) ∧ Below w3.heap.size w3 wr) (fun _ _ iv _ => l.length - (intOf iv).toNat)
    case atStart => exact ⟨0, by omega, rfl, World.ownsRow_nil _ _ _ _, Below.refl _ _⟩
    case round =>
      obtain ⟨i, hi, rfl, hown, hb⟩ := hrel
      obtain ⟨A3, c3, rfl⟩ := own_shape hown
      have HO := Lib.hid hown
      have HB := Lib.hid hb
      have hz := hb.size
      by_cases hlt : i < l.length
      · have t1 : decide ((i : Int) < (l.length : Int)) = true := decide_eq_true (by omega)
        obtain ⟨bk, off, rfl, hbk, hcells⟩ := ints_cells hr (by omega)
        have k0 := (hb.cell (p := ⟨bk, off + i, none⟩) (by show bk < w3.heap.size; omega)).trans ((HB3.out.cell (p := ⟨bk, off + i, none⟩) (by show bk < w.heap.size; omega)).trans (hcells i hlt))
        have HT := Lib.hid fun k hk => HR.out.take hlt (k := k) hk
        have HS := Lib.hid (searchInts_any _ vs (l.getD i 0) wr _ (Nat.le_refl _) ((HI3.out.below hb).more hz) (by omega) HR.out.1.asc)
        generalize l.getD i 0 = x at *
        clear hown hb hcells hr
        go_wp2_with (first
          | (go_at_call 53; refine (HS.out).mono ?_; rintro e w5 ⟨⟨k, rfl, hk⟩, hb5⟩; have HK := Lib.hid hk; have HB5 := Lib.hid hb5; have HO5 := Lib.hid (own_size HO.out hb5); have hz5 := hb5.size; clear hk hb5)
          | (at_builtin; refine wpList_pushD el_int rfl (.tmp 20) (.tmp 24) rfl w3.heap.size _ i _ (HO5.out.alloc _) rfl w5.heap.size 1 _ rfl (new_cell rfl) rfl (by omega) (by omega) (by simp; omega) ?_; intro v6 w6 hown6 hg6 hl6))
        go_roundw
        case rel => exact ⟨i + 1, by omega, by go_num, by rw [HT.out k HK.out, List.map_append]; exact hown6, below_push ((HB.out.trans (HB5.out.mono hz)).alloc (by omega) _) (HO5.out.alloc _) (Nat.le_refl _) (by simp; omega) hg6⟩
        case measure => simp [intOf]; omega
      · obtain rfl : i = l.length := by omega
        have i6 : ¬ (l.length : Int) < (l.length : Int) := by omega
        have HCl := Lib.hid (cloneInts_any _ vs wr _ (Nat.le_refl _) ((HI3.out.below hb).more hz) (by omega))
        have hfull : rs.take l.length = rs := List.take_of_length_le (by rw [HRl.out]; exact Nat.le_refl _)
        rw [hfull] at HO
        clear hown hb hr hfull
        go_wp2_with (go_at_call 54; refine (HCl.out).mono ?_; rintro e w5 ⟨v5, rfl, hown5, hb5⟩; obtain ⟨A5, c5, rfl⟩ := own_shape hown5; have HO5 := Lib.hid hown5; have HB5 := Lib.hid hb5; clear hown5 hb5)
        go_ret3
        exact ⟨_, _, rfl, own_ints HO5.out (by omega) HW.out.1, own_ints (own_size HO.out HB5.out) (by rw [HRl.out]; omega) HW.out.2, HB3.out.trans ((HB.out.trans (HB5.out.mono hz)).mono hz3)⟩
end Go.Proofs.YtlojecajonhmhaaGreatDoor

/-
  A slice of words: the cell of each word, and its bound. Conditions: the slice reads as the words.
-/
namespace Go.Proofs.YtlojecajonhmhaaGreatDoor
open Go Go.RowKit Go.Dam
set_option linter.unusedVariables false
theorem word_at {w : World} {B : Nat} {A : Option Addr} {ws : List Nat} (hr : Reads w B 1 A ws.length (ws.map wordV)) (hn : 0 < ws.length) :
    ∃ b off, A = some ⟨b, off, none⟩ ∧ b < B ∧ ∀ k, k < ws.length → w.cell? ⟨b, off + k, none⟩ = some (.int .u64 ((ws.getD k 0 : Nat) : Int)) := by
  obtain ⟨b, off, e, hb, hc⟩ := hr.addr hn
  refine ⟨b, off, e, hb, fun k hk => ?_⟩
  obtain ⟨u, hx, hu⟩ := hc k hk
  rw [hu, ← hx]
  simp [hk, wordV]
theorem word_lt {ws : List Nat} (hw : ∀ z ∈ ws, z < 18446744073709551616) (k : Nat) : ws.getD k 0 < 18446744073709551616 := by
  rw [List.getD_eq_getElem?_getD]
  rcases Nat.lt_or_ge k ws.length with h | h
  · rw [List.getElem?_eq_getElem h]; exact hw _ (List.getElem_mem _)
  · rw [List.getElem?_eq_none h]; simp

end Go.Proofs.YtlojecajonhmhaaGreatDoor

/-
  Contract of bits.Make: the words of a list of bits, or that it is too long. Conditions: the list can be read as data.
-/
namespace Go.Proofs.YtlojecajonhmhaaGreatDoor
open Go Go.RowKit Go.Dam
set_option linter.unusedVariables false

theorem el_u64 : El Tryz.prog 92 100 (.int .u64 0) 1 8 := ⟨Tryz.underlying92, by kernel_rfl, rfl, by decide⟩
/-- It returns a row of n bits in these words, and a code. -/
def GivesRow (n : Int) (ws : List Nat) (c : Int) (w : World) (e : Ending) (w' : World) : Prop :=
  ∃ s, e = .returned (.tuple #[.agg #[.int .i64 n, s], .int .i64 c]) ∧ IsWords w' w'.heap.size s ws ∧ Below w.heap.size w w'
theorem isWords_nil (w : World) (B : Nat) : IsWords w B (.slice none 0 0) [] := ⟨none, 0, rfl, Nat.le_refl _, Nat.zero_le _, Nat.zero_le _, Reads.none_, fun z hz => by cases hz⟩
/-- The block of the words while they are made. -/
def WBlk (w : World) (g : Nat) (ws : List Nat) : Prop := Blk w g 100 (ws.map wordV).toArray
theorem WBlk.cell {w : World} {g : Nat} {ws : List Nat} (h : WBlk w g ws) {k : Nat} (hk : k < ws.length) : w.cell? ⟨g, k, none⟩ = some (.int .u64 ((ws.getD k 0 : Nat) : Int)) := by
  rw [Blk.cell h]; simp [hk, wordV]
theorem WBlk.set {w : World} {g : Nat} {ws : List Nat} (h : WBlk w g ws) (k n : Nat) : WBlk (w.setCell ⟨g, k, none⟩ (.int .u64 n)) g (ws.set k n) := by
  have := Blk.set_ h k (.int .u64 n)
  unfold WBlk
  rw [List.map_set]
  simpa [wordV] using this
theorem WBlk.isWords {w : World} {g : Nat} {ws : List Nat} (h : WBlk w g ws) (hl : ws.length ≤ 140737488351232) (hw : ∀ z ∈ ws, z < 18446744073709551616) : IsWords w w.heap.size (.slice (some ⟨g, 0, none⟩) ws.length ws.length) ws := by
  refine ⟨_, _, rfl, Nat.le_refl _, by unfold maxLen; omega, hl, ⟨by simp, fun _ => ⟨_, rfl, Blk.lt h, fun j u hu => ?_⟩⟩, hw⟩
  have : (⟨g, 0, none⟩ : Addr).add j = ⟨g, j, none⟩ := by unfold Addr.add; split <;> simp_all
  rw [this, Blk.cell h, ← hu]; simp
set_option maxHeartbeats 400000 in
theorem make_long (v : Value) (l : List Bool) (w : World) (B : Nat) (h : IsBools w B v l) (hl : 4096 < l.length) :
    Calls Tryz.prog 55 #[v] w (GivesRow 0 [] 1 w) := by
  obtain ⟨A, c, rfl, hc, hm, hb, hr⟩ := h
  go_enter Tryz.func55, Tryz.ntmps55
  go_wp2_with fail
  exact bodyPost_ret (v := .tuple #[.agg #[.int .i64 0, .slice none 0 0], .int .i64 1]) (by simp [results, Tryz.results55, go_sem]) rfl ⟨_, rfl, isWords_nil _ _, (Below.refl _ _).alloc (Nat.le_refl _) _⟩
set_option maxHeartbeats 400000 in
theorem make_any (v : Value) (l : List Bool) (w : World) (B : Nat) (hB : B ≤ w.heap.size) (h : IsBools w B v l) (hl : l.length ≤ 4096) :
    Calls Tryz.prog 55 #[v] w (GivesRow l.length (packW l ((l.length + 63) / 64) l.length) 0 w) := by
  obtain ⟨A, c, rfl, hc, hm, hb, hr⟩ := h
  obtain ⟨W, hW⟩ : ∃ W, W = (l.length + 63) / 64 := ⟨_, rfl⟩
  rw [← hW]
  have hmk := fun w' => run_make1 el_u64 rfl (((l.length : Int) + 64 - 1) / 64) W (by omega) (by omega) (by omega) w'
  have hW1 : l.length ≤ 64 * W := by omega
  have hW2 : W ≤ 64 := by omega
  have HW := Lib.hid hW
  clear hW
  go_enter Tryz.func55, Tryz.ntmps55
  go_wp2_with fail
  go_loopw [22] (fun iv wr => ∃ i : Nat, i ≤ l.length ∧ iv = .int .i64 i ∧ WBlk wr (w.heap.size + 1) (packW l W i) ∧ Blk wr w.heap.size 94 #[.int .i64 0, .slice none 0 0] ∧
      Blk wr (w.heap.size + 1 + 1) 94 #[.int .i64 l.length, .slice (some ⟨w.heap.size + 1, 0, none⟩) W W] ∧ Below w.heap.size w wr) (fun iv _ => l.length - (intOf iv).toNat)
  case atStart =>
    refine ⟨0, by omega, rfl, ?_, ((Blk.new w _ _).alloc _).alloc _, Blk.new_at _ _ _ _ (by simp), (((Below.refl _ _).alloc (Nat.le_refl _) _).alloc (by simp) _).alloc (by simp; omega) _⟩
    rw [packW_0]
    have := (Blk.new_at (w.alloc (.cells #[.int .i64 0, .slice none 0 0] 94)) 100 (List.replicate W (Value.int .u64 0)).toArray (w.heap.size + 1) (by simp)).alloc (.cells #[.int .i64 l.length, .slice (some ⟨w.heap.size + 1, 0, none⟩) W W] 94)
    unfold WBlk
    rw [List.map_replicate]
    exact this
  case round =>
    obtain ⟨i, hi, rfl, hW, hR, hS, hbel⟩ := hrel
    have hz := hbel.size
    by_cases hlt : i < l.length
    · obtain ⟨b, off, rfl, hbB, hcells⟩ := bools_at hr (by omega)
      have k2 := (hbel.cell (p := ⟨b, off + i, none⟩) (by simp; omega)).trans (hcells i hlt)
      have k3 : wr.cell? ⟨w.heap.size + 1 + 1, 1, none⟩ = some (.slice (some ⟨w.heap.size + 1, 0, none⟩) W W) := by rw [hS.cell]; rfl
      have k4 := hW.cell (k := i / 64) (by rw [packW_length]; omega)
      have k5 := Blk.frozen hW (i / 64)
      have hcl := packW_clear l W i i (by omega) (Nat.le_refl _)
      have hxl : (packW l W i).getD (i / 64) 0 < 18446744073709551616 := word_lt (packW_lt l W i (by omega)) _
      have HS := Lib.hid hS
      have HR := Lib.hid hR
      have HB := Lib.hid hbel
      have hor := or_pow ((packW l W i).getD (i / 64) 0) (i % 64) hxl (by omega) hcl
      have hnext : l.getD i false = true → Hid (WBlk (wr.setCell ⟨w.heap.size + 1, i / 64, none⟩ (.int .u64 (((packW l W i).getD (i / 64) 0 + 2 ^ (i % 64) : Nat) : Int))) (w.heap.size + 1) (packW l W (i + 1))) := by
        intro hb
        rw [packW_yes hb]
        exact Lib.hid (hW.set (i / 64) _)
      have HW := Lib.hid hW
      clear hS hR hbel hcells hW hcl
      generalize hx : (packW l W i).getD (i / 64) 0 = x at *
      have HX := Lib.hid hx
      clear hx
      cases hb : l.getD i false with
      | true =>
        rw [hb] at k2
        have HN := hnext hb
        clear hnext hb
        go_wp2_with fail
        go_region
        go_wp2
        go_roundw
        case rel => exact ⟨i + 1, by omega, by go_num, HN.out, HR.out.far (by simp) _, HS.out.far (by simp) _, (HB.out.setCell (p := ⟨w.heap.size + 1, i / 64, none⟩) (Nat.le_succ _) _).drew⟩
        case measure => simp [intOf]; omega
      | false =>
        rw [hb] at k2
        have HN := Lib.hid (packW_no (W := W) hb)
        clear hnext hb
        go_wp2
        go_roundw
        case rel => exact ⟨i + 1, by omega, by go_num, by rw [HN.out]; exact HW.out, HR.out, HS.out, HB.out⟩
        case measure => simp [intOf]; omega
    · obtain rfl : i = l.length := by omega
      have k3 : wr.cell? ⟨w.heap.size + 1 + 1, 0, none⟩ = some (.int .i64 l.length) := by rw [hS.cell]; rfl
      have k4 : wr.cell? ⟨w.heap.size + 1 + 1, 1, none⟩ = some (.slice (some ⟨w.heap.size + 1, 0, none⟩) W W) := by rw [hS.cell]; rfl
      have k5 : wr.cell? ⟨w.heap.size, 0, none⟩ = some (.int .i64 0) := by rw [hR.cell]; rfl
      have k6 : wr.cell? ⟨w.heap.size, 1, none⟩ = some (.slice none 0 0) := by rw [hR.cell]; rfl
      have f0 := hR.frozen 0
      have f1 := hR.frozen 1
      have hR2 := (hR.set_ 0 (.int .i64 l.length)).set_ 1 (.slice (some ⟨w.heap.size + 1, 0, none⟩) W W)
      have c0 : Hid (_ = some (Value.int .i64 l.length)) := Lib.hid ((hR2.cell 0).trans rfl)
      have c1 : Hid (_ = some (Value.slice (some ⟨w.heap.size + 1, 0, none⟩) W W)) := Lib.hid ((hR2.cell 1).trans rfl)
      clear hR2
      have HW' := Lib.hid hW
      have HB := Lib.hid hbel
      clear hS hR hbel hW
      have HL : Hid ((packW l W l.length).length = W) := Lib.hid (packW_length _ _ _)
      have HT : Hid (∀ z ∈ packW l W l.length, z < 18446744073709551616) := Lib.hid (packW_lt l W l.length hW1)
      go_wp2
      refine bodyPost_ret (v := .tuple #[.agg #[.int .i64 l.length, .slice (some ⟨w.heap.size + 1, 0, none⟩) W W], .int .i64 0]) (by have c0 := c0.out; have c1 := c1.out; simp [results, Tryz.results55, go_sem, c0, c1]) rfl ⟨_, rfl, ?_, ?_⟩
      · have h1 : WBlk ((wr.setCell ⟨w.heap.size, 0, none⟩ (.int .i64 l.length)).setCell ⟨w.heap.size, 1, none⟩ (.slice (some ⟨w.heap.size + 1, 0, none⟩) W W)) (w.heap.size + 1) (packW l W l.length) :=
          Blk.far (Blk.far HW'.out (p := ⟨w.heap.size, 0, none⟩) (by simp) _) (p := ⟨w.heap.size, 1, none⟩) (by simp) _
        have h2 := h1.isWords (by rw [HL.out]; omega) HT.out
        rwa [HL.out] at h2
      · exact (HB.out.setCell (p := ⟨w.heap.size, 0, none⟩) (Nat.le_refl _) _).setCell (p := ⟨w.heap.size, 1, none⟩) (Nat.le_refl _) _
end Go.Proofs.YtlojecajonhmhaaGreatDoor

/-
  Contract of the reference's BitsMake: the words of a list of bits, or that it is too long. Conditions: the list can be read as data.
-/
namespace Go.Proofs.YtlojecajonhmhaaGreatDoor
open Go Go.RowKit Go.Dam
set_option linter.unusedVariables false

/-- What stands while the reference makes its words: the result's box, the row's own box with its length and its slice, and the slice's words. -/
structure Making (W0 : World) (n : Int) (l : List Bool) (i : Nat) (w : World) : Prop where
  s : ∃ sv m, m = (i + 63) / 64 ∧ Blk w (W0.heap.size + 1) 94 #[.int .i64 n, sv] ∧ w.ownsRow (W0.heap.size + 1 + 1) 100 1 sv m ((packW l m i).map wordV)
  r : Blk w W0.heap.size 94 #[.int .i64 0, .slice none 0 0]
  b : Below W0.heap.size W0 w
/-- The bit is added to the last word. -/
theorem step_b {W0 w2 : World} {n : Int} {l : List Bool} {i M j g cap : Nat}
    (hS : Blk w2 (W0.heap.size + 1) 94 #[.int .i64 n, .slice (some ⟨g, 0, none⟩) M cap]) (hO : w2.ownsRow (W0.heap.size + 1 + 1) 100 1 (.slice (some ⟨g, 0, none⟩) M cap) M ((packW l M i).map wordV))
    (hR : Blk w2 W0.heap.size 94 #[.int .i64 0, .slice none 0 0]) (hB : Below W0.heap.size W0 w2) (hM : M = (i + 1 + 63) / 64) (hj : j + 1 = M) (hij : i / 64 = j) (hb : l.getD i false = true) :
    ∃ x : Nat, x < 18446744073709551616 ∧ x + 2 ^ (i % 64) < 18446744073709551616 ∧ IntKind.u64.wrap ((x : Int) + IntKind.u64.wrap (2 ^ (i % 64))) = ((x + 2 ^ (i % 64) : Nat) : Int) ∧
      w2.cell? ⟨W0.heap.size + 1, 1, none⟩ = some (.slice (some ⟨g, 0, none⟩) M cap) ∧ w2.cell? ⟨g, j, none⟩ = some (.int .u64 x) ∧ w2.frozen? ⟨g, j, none⟩ = false ∧
      Making W0 n l (i + 1) (w2.setCell ⟨g, j, none⟩ (.int .u64 ((x + 2 ^ (i % 64) : Nat) : Int))).drew := by
  have hl := packW_length l M i
  have hcl := packW_clear l M i i (by omega) (Nat.le_refl _)
  have hxl : (packW l M i).getD (i / 64) 0 < 18446744073709551616 := word_lt (packW_lt l M i (by omega)) _
  have hal := add_pow_lt _ _ hxl (by omega) hcl
  have hyes := packW_yes (W := M) hb
  rw [hij] at hxl hcl hal hyes
  have hgl := hO.lt g rfl
  refine ⟨(packW l M i).getD j 0, hxl, hal, ?_, by rw [hS.cell]; rfl, ?_, hO.frozenAt j, ⟨⟨.slice (some ⟨g, 0, none⟩) M cap, M, hM, Blk.drew (hS.far (by simp; omega) _), ?_⟩, Blk.drew (hR.far (by simp; omega) _), (hB.setCell (by simp; omega) _).drew⟩⟩
  · rw [pow_u64 _ (by omega), wrap_u64]
    generalize (packW l M i).getD j 0 = x at *
    generalize 2 ^ (i % 64) = q at *
    omega
  · rw [hO.cellAt j (by omega)]
    simp [hl, wordV, show j < M from by omega]
  · have := (hO.stored j (.int .u64 (((packW l M i).getD j 0 + 2 ^ (i % 64) : Nat) : Int))).1
    rw [hyes, List.map_set]
    exact this.drew
theorem last_word (l : List Bool) (m i : Nat) : ((packW l m i).map wordV ++ [.int .u64 0])[m]? = some (.int .u64 0) := by
  have := packW_length l m i
  rw [List.getElem?_append_right (by simp [this])]; simp [this]
end Go.Proofs.YtlojecajonhmhaaGreatDoor

/-
  Contracts of bits.Make and of the reference's BitsMake, with the words as a row of the call's own. Conditions: at most 4096 bits.
-/
namespace Go.Proofs.YtlojecajonhmhaaGreatDoor
open Go Go.RowKit Go.Dam
set_option linter.unusedVariables false
/-- Words in a row of the call's own. -/
def OwnWords (w : World) (base : Nat) (s : Value) (ws : List Nat) : Prop := w.ownsRow base 100 1 s ws.length (ws.map wordV) ∧ (∀ z ∈ ws, z < 18446744073709551616) ∧ ws.length ≤ 1000
/-- A row of n bits in these words, which are the call's own, and a code. -/
def GivesRowO (n : Int) (ws : List Nat) (c : Int) (w : World) (e : Ending) (w' : World) : Prop :=
  ∃ s, e = .returned (.tuple #[.agg #[.int .i64 n, s], .int .i64 c]) ∧ OwnWords w' w.heap.size s ws ∧ Below w.heap.size w w'
set_option maxHeartbeats 400000 in
theorem makeO_any (v : Value) (l : List Bool) (w : World) (B : Nat) (hB : B ≤ w.heap.size) (h : IsBools w B v l) (hl : l.length ≤ 4096) :
    Calls Tryz.prog 55 #[v] w (GivesRowO l.length (packW l ((l.length + 63) / 64) l.length) 0 w) := by
  obtain ⟨A, c, rfl, hc, hm, hb, hr⟩ := h
  obtain ⟨W, hW⟩ : ∃ W, W = (l.length + 63) / 64 := ⟨_, rfl⟩
  rw [← hW]
  have hmk := fun w' => run_make1 el_u64 rfl (((l.length : Int) + 64 - 1) / 64) W (by omega) (by omega) (by omega) w'
  have hW1 : l.length ≤ 64 * W := by omega
  have hW2 : W ≤ 64 := by omega
  have HW := Lib.hid hW
  clear hW
  go_enter Tryz.func55, Tryz.ntmps55
  go_wp2_with fail
  go_loopw [22] (fun iv wr => ∃ i : Nat, i ≤ l.length ∧ iv = .int .i64 i ∧ WBlk wr (w.heap.size + 1) (packW l W i) ∧ Blk wr w.heap.size 94 #[.int .i64 0, .slice none 0 0] ∧
      Blk wr (w.heap.size + 1 + 1) 94 #[.int .i64 l.length, .slice (some ⟨w.heap.size + 1, 0, none⟩) W W] ∧ Below w.heap.size w wr) (fun iv _ => l.length - (intOf iv).toNat)
  case atStart =>
    refine ⟨0, by omega, rfl, ?_, ((Blk.new w _ _).alloc _).alloc _, Blk.new_at _ _ _ _ (by simp), (((Below.refl _ _).alloc (Nat.le_refl _) _).alloc (by simp) _).alloc (by simp; omega) _⟩
    rw [packW_0]
    have := (Blk.new_at (w.alloc (.cells #[.int .i64 0, .slice none 0 0] 94)) 100 (List.replicate W (Value.int .u64 0)).toArray (w.heap.size + 1) (by simp)).alloc (.cells #[.int .i64 l.length, .slice (some ⟨w.heap.size + 1, 0, none⟩) W W] 94)
    unfold WBlk
    rw [List.map_replicate]
    exact this
  case round =>
    obtain ⟨i, hi, rfl, hW, hR, hS, hbel⟩ := hrel
    have hz := hbel.size
    by_cases hlt : i < l.length
    · obtain ⟨b, off, rfl, hbB, hcells⟩ := bools_at hr (by omega)
      have k2 := (hbel.cell (p := ⟨b, off + i, none⟩) (by simp; omega)).trans (hcells i hlt)
      have k3 : wr.cell? ⟨w.heap.size + 1 + 1, 1, none⟩ = some (.slice (some ⟨w.heap.size + 1, 0, none⟩) W W) := by rw [hS.cell]; rfl
      have k4 := hW.cell (k := i / 64) (by rw [packW_length]; omega)
      have k5 := Blk.frozen hW (i / 64)
      have hcl := packW_clear l W i i (by omega) (Nat.le_refl _)
      have hxl : (packW l W i).getD (i / 64) 0 < 18446744073709551616 := word_lt (packW_lt l W i (by omega)) _
      have HS := Lib.hid hS
      have HR := Lib.hid hR
      have HB := Lib.hid hbel
      have hor := or_pow ((packW l W i).getD (i / 64) 0) (i % 64) hxl (by omega) hcl
      have hnext : l.getD i false = true → Hid (WBlk (wr.setCell ⟨w.heap.size + 1, i / 64, none⟩ (.int .u64 (((packW l W i).getD (i / 64) 0 + 2 ^ (i % 64) : Nat) : Int))) (w.heap.size + 1) (packW l W (i + 1))) := by
        intro hb
        rw [packW_yes hb]
        exact Lib.hid (hW.set (i / 64) _)
      have HW := Lib.hid hW
      clear hS hR hbel hcells hW hcl
      generalize hx : (packW l W i).getD (i / 64) 0 = x at *
      have HX := Lib.hid hx
      clear hx
      cases hb : l.getD i false with
      | true =>
        rw [hb] at k2
        have HN := hnext hb
        clear hnext hb
        go_wp2_with fail
        go_region
        go_wp2
        go_roundw
        case rel => exact ⟨i + 1, by omega, by go_num, HN.out, HR.out.far (by simp) _, HS.out.far (by simp) _, (HB.out.setCell (p := ⟨w.heap.size + 1, i / 64, none⟩) (Nat.le_succ _) _).drew⟩
        case measure => simp [intOf]; omega
      | false =>
        rw [hb] at k2
        have HN := Lib.hid (packW_no (W := W) hb)
        clear hnext hb
        go_wp2
        go_roundw
        case rel => exact ⟨i + 1, by omega, by go_num, by rw [HN.out]; exact HW.out, HR.out, HS.out, HB.out⟩
        case measure => simp [intOf]; omega
    · obtain rfl : i = l.length := by omega
      have k3 : wr.cell? ⟨w.heap.size + 1 + 1, 0, none⟩ = some (.int .i64 l.length) := by rw [hS.cell]; rfl
      have k4 : wr.cell? ⟨w.heap.size + 1 + 1, 1, none⟩ = some (.slice (some ⟨w.heap.size + 1, 0, none⟩) W W) := by rw [hS.cell]; rfl
      have k5 : wr.cell? ⟨w.heap.size, 0, none⟩ = some (.int .i64 0) := by rw [hR.cell]; rfl
      have k6 : wr.cell? ⟨w.heap.size, 1, none⟩ = some (.slice none 0 0) := by rw [hR.cell]; rfl
      have f0 := hR.frozen 0
      have f1 := hR.frozen 1
      have hR2 := (hR.set_ 0 (.int .i64 l.length)).set_ 1 (.slice (some ⟨w.heap.size + 1, 0, none⟩) W W)
      have c0 : Hid (_ = some (Value.int .i64 l.length)) := Lib.hid ((hR2.cell 0).trans rfl)
      have c1 : Hid (_ = some (Value.slice (some ⟨w.heap.size + 1, 0, none⟩) W W)) := Lib.hid ((hR2.cell 1).trans rfl)
      clear hR2
      have HW' := Lib.hid hW
      have HB := Lib.hid hbel
      clear hS hR hbel hW
      have HL : Hid ((packW l W l.length).length = W) := Lib.hid (packW_length _ _ _)
      have HT : Hid (∀ z ∈ packW l W l.length, z < 18446744073709551616) := Lib.hid (packW_lt l W l.length hW1)
      go_wp2
      refine bodyPost_ret (v := .tuple #[.agg #[.int .i64 l.length, .slice (some ⟨w.heap.size + 1, 0, none⟩) W W], .int .i64 0]) (by have c0 := c0.out; have c1 := c1.out; simp [results, Tryz.results55, go_sem, c0, c1]) rfl ⟨_, rfl, ?_, ?_⟩
      · have h1 : WBlk ((wr.setCell ⟨w.heap.size, 0, none⟩ (.int .i64 l.length)).setCell ⟨w.heap.size, 1, none⟩ (.slice (some ⟨w.heap.size + 1, 0, none⟩) W W)) (w.heap.size + 1) (packW l W l.length) :=
          Blk.far (Blk.far HW'.out (p := ⟨w.heap.size, 0, none⟩) (by simp) _) (p := ⟨w.heap.size, 1, none⟩) (by simp) _
        have h2 := own_of_blk (base := w.heap.size) (n := (packW l W l.length).length) h1 (by omega) (by simp) (by rw [HL.out]; omega)
        rw [HL.out] at h2
        exact ⟨by rw [HL.out]; exact h2, HT.out, by rw [HL.out]; omega⟩
      · exact (HB.out.setCell (p := ⟨w.heap.size, 0, none⟩) (Nat.le_refl _) _).setCell (p := ⟨w.heap.size, 1, none⟩) (Nat.le_refl _) _
end Go.Proofs.YtlojecajonhmhaaGreatDoor

/-
  The contract of the reference's bitOf: bit i of a word. Conditions: the word is below 2 to the 64th, i is below 64.
-/
namespace Go.Proofs.YtlojecajonhmhaaGreatDoor
open Go Go.RowKit Go.Dam
set_option linter.unusedVariables false

end Go.Proofs.YtlojecajonhmhaaGreatDoor

/-
  Contracts of bits.May and of the reference's BitsMay: both say whether a row is well formed. Conditions: the row can be read as data.
-/
namespace Go.Proofs.YtlojecajonhmhaaGreatDoor
open Go Go.RowKit Go.Dam
set_option linter.unusedVariables false

theorem zero_test (x m : Nat) : (((x : Int) / 2 ^ m) == 0) = decide (x / 2 ^ m = 0) := by
  have e : (x : Int) / 2 ^ m = ((x / 2 ^ m : Nat) : Int) := by simp
  rw [e, Bool.eq_iff_iff, beq_iff_eq, decide_eq_true_iff]
  omega
theorem bit_of_word (ws : List Nat) (i : Nat) : (ws.getD (i / 64) 0).testBit (i % 64) = bitAt ws i := by unfold bitAt; rfl
end Go.Proofs.YtlojecajonhmhaaGreatDoor

/-
  Contract of the reference's bools: the bits of a row as a slice of its own. Conditions: the row can be read as data and is well formed.
-/
namespace Go.Proofs.YtlojecajonhmhaaGreatDoor
open Go Go.RowKit Go.Dam
set_option linter.unusedVariables false

theorem el_bool : El Tryz.prog 36 4 (.bool false) 1 1 := ⟨Tryz.underlying36, by kernel_rfl, rfl, by decide⟩
/-- The bits of a row. -/
def rowBits (ws : List Nat) (n : Nat) : List Bool := (List.range n).map (bitAt ws)
theorem rowBits_succ (ws : List Nat) (n : Nat) : rowBits ws (n + 1) = rowBits ws n ++ [bitAt ws n] := by
  unfold rowBits; rw [List.range_succ, List.map_append]; rfl
theorem rowBits_length (ws : List Nat) (n : Nat) : (rowBits ws n).length = n := by unfold rowBits; simp
theorem rowBits_0 (ws : List Nat) : rowBits ws 0 = [] := rfl
theorem rowBits_get (ws : List Nat) (n k : Nat) (hk : k < n) : (rowBits ws n).getD k false = bitAt ws k := by
  unfold rowBits; simp [hk]
attribute [irreducible] rowBits
/-- It returns a slice of its own that reads as the bits. -/
def GivesBools (l : List Bool) (w : World) (e : Ending) (w' : World) : Prop := ∃ v, e = .returned v ∧ IsBools w' w'.heap.size v l ∧ Below w.heap.size w w'
end Go.Proofs.YtlojecajonhmhaaGreatDoor
