/-
  Contract of paren.Tree: of each node its parent. Conditions: none beyond a text that can be read.
-/
import Derived.Test.YtiflelifkjfpdaaTreePlain
import Derived.Test.YtiflelifkjfpdaaSameInts
import Derived.Test.YtiflelifkjfpdaaOwnBlk
namespace Go.Dam
open Go Go.RowKit
set_option linter.unusedVariables false
/-- The nodes of open places. -/
def nodesV (f : Nat → Nat) (st : List Nat) : List Value := st.map fun k => Value.int .i64 ((opn f k : Nat) : Int)
theorem nodesV_len (f : Nat → Nat) (st : List Nat) : (nodesV f st).length = st.length := by simp [nodesV]
theorem nodesV_push (f : Nat → Nat) (st : List Nat) (k : Nat) : nodesV f (st ++ [k]) = nodesV f st ++ [Value.int .i64 ((opn f k : Nat) : Int)] := by simp [nodesV]
theorem nodesV_nil (f : Nat → Nat) : nodesV f [] = [] := rfl
attribute [irreducible] nodesV
end Go.Dam
namespace Go.Proofs.Ytiflelifkjfpdaa
open Go Go.RowKit Go.Dam
set_option linter.unusedVariables false
set_option maxHeartbeats 1000000 in
theorem parenTree_any (s : ByteArray) (l : List Int) (cc : Int) (w : World) (hs : s.size ≤ 140737488351232) (hR : TreeAns s l cc) :
    Calls Try.prog 36 #[.string s] w (GivesInts l cc w) := by
  rcases hR with ⟨rfl, hs4, hbr, hT⟩ | ⟨h0, hC, rfl⟩
  rotate_left
  · have HC := Lib.hid (parenCheck_any s cc w hs hC)
    have t0 : (cc != 0) = true := by simpa using h0
    clear hC h0
    go_enter Try.func36, Try.ntmps36
    go_wp2_with (go_at_call 30; refine (HC.out).mono ?_; rintro e w1 ⟨rfl, hb1⟩)
    go_ret2
    exact ⟨_, rfl, isInts_nil _ _ _, hb1⟩
  have HC := Lib.hid (parenCheck_any s 0 w hs (.inr (.inr ⟨hs4, hbr, rfl⟩)))
  have HBr := Lib.hid hbr
  have HT := Lib.hid hT
  have hll : l.length ≤ 400 := by rw [hT.1]; have := opn_le (chr s) s.size; omega
  clear hbr hT
  go_enter Try.func36, Try.ntmps36
  go_wp2_with (go_at_call 30; refine (HC.out).mono ?_; rintro e w1 ⟨rfl, hb1⟩)
  have HB1 := Lib.hid hb1
  clear hb1 HC
  have HB1 := Lib.hid HB1.out
  go_loopw [5, 6, 16] (fun outv ov iv wr => ∃ i : Nat, ∃ st : List Nat, i ≤ s.size ∧ iv = .int .i64 i ∧ Opens (chr s) i st ∧ wr.ownsRow w1.heap.size 3 1 ov st.length (nodesV (chr s) st) ∧
      wr.ownsRow w1.heap.size 3 1 outv (opn (chr s) i) ((l.take (opn (chr s) i)).map (Value.int .i64)) ∧ Apart ov outv ∧ Below w1.heap.size w1 wr) (fun _ _ iv _ => s.size - (intOf iv).toNat)
  case atStart => exact ⟨0, [], by omega, rfl, Opens.nil _, by rw [nodesV_nil]; exact World.ownsRow_nil _ _ _ _, by rw [opn_0]; exact World.ownsRow_nil _ _ _ _, Apart.nil _, Below.refl _ _⟩
  case round =>
    obtain ⟨i, st, hi, rfl, hop, hown, hout, hap, hbel⟩ := hrel
    have hstl := hop.len_le
    have hon := opn_le (chr s) i
    have hz := hbel.size
    obtain ⟨A2, cap2, rfl⟩ := own_shape hown
    obtain ⟨A3, cap3, rfl⟩ := own_shape hout
    have HO := Lib.hid hown
    have HOut := Lib.hid hout
    have HAp := Lib.hid hap
    have HB := Lib.hid hbel
    by_cases hlt : i < s.size
    · have hch := chr_at hlt
      by_cases h40 : chr s i = 40
      · have t0 : ((s[i].toNat : Int) == 41) = false := by rw [hch, h40]; rfl
        have HN1 := Lib.hid (hop.push h40)
        have hop1 : Hid (opn (chr s) (i + 1) = opn (chr s) i + 1) := Lib.hid (opn_yes h40)
        have HPar : Hid (∃ r : Int, ParR (chr s) i r ∧ ((st = [] ∧ r = -1) ∨ ∃ st' k, st = st' ++ [k] ∧ r = ((opn (chr s) k : Nat) : Int))) := Lib.hid (by
          rcases snoc_cases st with rfl | ⟨st', k, rfl⟩
          · exact ⟨-1, hop.par_nil fun j hj => HBr.out.2.1 j (by omega), .inl ⟨rfl, rfl⟩⟩
          · exact ⟨_, hop.par_top, .inr ⟨st', k, rfl, rfl⟩⟩)
        obtain ⟨r, hr, hcase⟩ := HPar.out
        have HTk := Lib.hid (HT.out.take hlt h40 hr)
        have HPush : Hid (nodesV (chr s) (st ++ [i]) = nodesV (chr s) st ++ [.int .i64 ((opn (chr s) i : Nat) : Int)]) := Lib.hid (nodesV_push _ _ _)
        generalize hq : opn (chr s) i = q at *
        have HQ := Lib.hid hq
        clear hq hr
        have hlen : (st ++ [i]).length = st.length + 1 := by simp
        have HLen := Lib.hid hlen
        rcases hcase with ⟨hst, rfl⟩ | ⟨st', k, hst, rfl⟩
        · have hst0 : st.length = 0 := by rw [hst]; rfl
          have tl : decide (0 < st.length) = false := by simp; omega
          clear hst hst0 hop hown hout hap hbel hch h40 hlen
          go_wp2_with (first
            | (at_builtin; refine wpList_pushD el_int rfl (.tmp 37) (.tmp 40) rfl w1.heap.size _ st.length _ (HO.out.alloc _) rfl wr.heap.size 1 _ rfl (by simp; rfl) rfl (by omega) (by omega) (by simp; omega) ?_; intro v2 w2 hown2 hg2 hl2; have HO2 := Lib.hid hown2; have HG2 := Lib.hid hg2; have HL2 := Lib.hid hl2; clear hown2 hg2 hl2)
            | (at_builtin; refine wpList_pushD el_int rfl (.tmp 42) (.tmp 44) rfl w1.heap.size _ q _ ((HAp.out.kept HG2.out (HOut.out.alloc _)).alloc _) rfl w2.heap.size 1 _ rfl (by simp; rfl) rfl (by omega) (by omega) (by have := HG2.out.size; simp at this; simp; omega) ?_; intro v3 w3 hown3 hg3 hl3; have HO3 := Lib.hid hown3; have HG3 := Lib.hid hg3; have HL3 := Lib.hid hl3; clear hown3 hg3 hl3))
          have hz2 := HG2.out.size
          have hz3 := HG3.out.size
          simp at hz2 hz3
          go_roundw
          case rel =>
            refine ⟨i + 1, st ++ [i], by omega, by go_num, HN1.out, ?_, ?_, ?_, ?_⟩
            · have a1 : Apart v2 (.slice A3 q cap3) := HAp.out.grow (by intro g hg; rcases HL2.out g hg with h | h; exact .inl h; exact .inr (by simp at h; omega)) HOut.out
              have a2 := a1.symm.kept (HG3.out) (HO2.out.alloc (.cells #[.int .i64 (-1)] 3))
              rw [HPush.out, HLen.out]; exact a2
            · have htk := HTk.out
              rw [hop1.out] at htk
              rw [hop1.out, htk, List.map_append]; exact HO3.out
            · have a1 : Apart v2 (.slice A3 q cap3) := HAp.out.grow (by intro g hg; rcases HL2.out g hg with h | h; exact .inl h; exact .inr (by simp at h; omega)) HOut.out
              exact (a1.symm.grow HL3.out (HO2.out.alloc (.cells #[.int .i64 (-1)] 3))).symm
            · exact below_push ((below_push (HB.out.alloc hz _) (HO.out.alloc _) (Nat.le_refl _) (by simp; omega) HG2.out).alloc (by omega) _) ((HAp.out.kept HG2.out (HOut.out.alloc _)).alloc _) (Nat.le_refl _) (by simp; omega) HG3.out
          case measure => simp [intOf]; omega
        · obtain ⟨g, rfl, hg, htop⟩ := own_top (x := .int .i64 ((opn (chr s) k : Nat) : Int)) (n := st'.length) (xs := nodesV (chr s) st') (by rw [hst, List.length_append, List.length_singleton, nodesV_push] at hown; exact hown)
          have k9 : wr.cell? ⟨g, st'.length, none⟩ = some (.int .i64 ((opn (chr s) k : Nat) : Int)) := htop
          have hst0 : st.length = st'.length + 1 := by rw [hst]; simp
          have tl : decide (0 < st.length) = true := by simp; omega
          have e1 : ((st.length : Int) - 1) = (st'.length : Int) := by omega
          have hlt2 : st'.length < st.length := by omega
          clear hst hst0 hop hown hout hap hbel hch h40 hlen htop
          generalize opn (chr s) k = r at *
          generalize st'.length = t' at *
          go_wp2_with (first
            | (at_builtin; refine wpList_pushD el_int rfl (.tmp 37) (.tmp 40) rfl w1.heap.size _ st.length _ (HO.out.alloc _) rfl wr.heap.size 1 _ rfl (by simp; rfl) rfl (by omega) (by omega) (by simp; omega) ?_; intro v2 w2 hown2 hg2 hl2; have HO2 := Lib.hid hown2; have HG2 := Lib.hid hg2; have HL2 := Lib.hid hl2; clear hown2 hg2 hl2)
            | (at_builtin; refine wpList_pushD el_int rfl (.tmp 42) (.tmp 44) rfl w1.heap.size _ q _ ((HAp.out.kept HG2.out (HOut.out.alloc _)).alloc _) rfl w2.heap.size 1 _ rfl (by simp; rfl) rfl (by omega) (by omega) (by have := HG2.out.size; simp at this; simp; omega) ?_; intro v3 w3 hown3 hg3 hl3; have HO3 := Lib.hid hown3; have HG3 := Lib.hid hg3; have HL3 := Lib.hid hl3; clear hown3 hg3 hl3))
          have hz2 := HG2.out.size
          have hz3 := HG3.out.size
          simp at hz2 hz3
          go_roundw
          case rel =>
            refine ⟨i + 1, st ++ [i], by omega, by go_num, HN1.out, ?_, ?_, ?_, ?_⟩
            · have a1 : Apart v2 (.slice A3 q cap3) := HAp.out.grow (by intro g hg; rcases HL2.out g hg with h | h; exact .inl h; exact .inr (by simp at h; omega)) HOut.out
              have a2 := a1.symm.kept (HG3.out) (HO2.out.alloc (.cells #[.int .i64 (r : Int)] 3))
              rw [HPush.out, HLen.out]; exact a2
            · have htk := HTk.out
              rw [hop1.out] at htk
              rw [hop1.out, htk, List.map_append]; exact HO3.out
            · have a1 : Apart v2 (.slice A3 q cap3) := HAp.out.grow (by intro g hg; rcases HL2.out g hg with h | h; exact .inl h; exact .inr (by simp at h; omega)) HOut.out
              exact (a1.symm.grow HL3.out (HO2.out.alloc (.cells #[.int .i64 (r : Int)] 3))).symm
            · exact below_push ((below_push (HB.out.alloc hz _) (HO.out.alloc _) (Nat.le_refl _) (by simp; omega) HG2.out).alloc (by omega) _) ((HAp.out.kept HG2.out (HOut.out.alloc _)).alloc _) (Nat.le_refl _) (by simp; omega) HG3.out
          case measure => simp [intOf]; omega
      · have t0 : ((s[i].toNat : Int) == 41) = true := by rw [hch]; have := HBr.out.1 i hlt; simp; omega
        rcases snoc_cases st with rfl | ⟨st', k, rfl⟩
        · exfalso
          have a := HBr.out.2.1 (i + 1) (by omega)
          rw [dep_close h40] at a
          have b := hop.1
          simp at b; omega
        · have HN1 := Lib.hid (hop.pop h40).2
          have hop1 : Hid (opn (chr s) (i + 1) = opn (chr s) i) := Lib.hid (opn_no h40)
          rw [List.length_append, List.length_singleton, nodesV_push] at hown
          have HP := Lib.hid (own_pop hown)
          have hcap := own_cap hown
          obtain ⟨g, rfl, _, _⟩ := own_top hown
          rw [List.length_append, List.length_singleton] at hstl
          clear hop hown hout hap hbel hch h40
          go_wp2_with fail
          go_roundw
          case rel => exact ⟨i + 1, st', by omega, by go_num, HN1.out, HP.out, by rw [hop1.out]; exact HOut.out, fun g h => HAp.out g h, HB.out⟩
          case measure => simp [intOf]; omega
    · obtain rfl : i = s.size := by omega
      clear hop hown hap hbel
      go_wp2_with fail
      go_ret2
      have hl : (l.take (opn (chr s) s.size)) = l := List.take_of_length_le (by rw [HT.out.1]; exact Nat.le_refl _)
      have h2 := HOut.out
      rw [hl] at h2
      refine ⟨_, rfl, own_ints h2 (by omega) (fun z hz => int_wf (HT.out.i64 hs4 z hz)), HB1.out.trans (HB.out.mono HB1.out.size)⟩
end Go.Proofs.Ytiflelifkjfpdaa
