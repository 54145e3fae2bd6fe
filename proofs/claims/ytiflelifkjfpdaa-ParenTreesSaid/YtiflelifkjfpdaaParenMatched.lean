/-
  Contracts of paren.matches, paren.matched and paren.Check: which bracket belongs to which. Conditions: the argument is a string.
-/
import Derived.Test.YtiflelifkjfpdaaParenPlain
import Derived.Test.YtiflelifkjfpdaaIntBlk
import Derived.Test.YtiflelifkjfpdaaIntRows
namespace Go.Dam
open Go Go.RowKit
theorem snoc_cases {α : Type} (l : List α) : l = [] ∨ ∃ L b, l = L ++ [b] := by
  rcases List.eq_nil_or_concat l with h | ⟨L, b, h⟩
  · exact .inl h
  · exact .inr ⟨L, b, by rw [h, List.concat_eq_append]⟩
/-- A place as a value. -/
def natV (k : Nat) : Value := .int .i64 (k : Int)
/-- The list tells of each place the one that belongs to it. -/
def IsMatch (f : Nat → Nat) (n : Nat) (l : List Int) : Prop := l.length = n ∧ ∀ i, i < n → ∃ p : Nat, p < n ∧ Pt f i p ∧ l.getD i 0 = p
/-- The list while it is made: those that are open lack theirs. -/
def HalfMatch (f : Nat → Nat) (n i : Nat) (st : List Nat) (l : List Int) : Prop := l.length = n ∧ ∀ j, j < i → j ∉ st → ∃ p : Nat, p < n ∧ Pt f j p ∧ l.getD j 0 = p
theorem HalfMatch.push {f : Nat → Nat} {n i : Nat} {st : List Nat} {l : List Int} (h : HalfMatch f n i st l) : HalfMatch f n (i + 1) (st ++ [i]) l := by
  refine ⟨h.1, fun j hj hns => ?_⟩
  rw [List.mem_append] at hns
  refine h.2 j ?_ fun hm => hns (.inl hm)
  rcases Nat.lt_or_ge j i with h1 | h1
  · exact h1
  · obtain rfl : j = i := by omega
    exact absurd (.inr (by simp)) hns
theorem HalfMatch.pop {f : Nat → Nat} {n i k : Nat} {st : List Nat} {l : List Int} (h : HalfMatch f n i (st ++ [k]) l) (hi : i < n) (hm : Mt f k i) : HalfMatch f n (i + 1) st ((l.set i (k : Int)).set k (i : Int)) := by
  have hk := hm.lt
  refine ⟨by rw [List.length_set, List.length_set]; exact h.1, fun j hj hns => ?_⟩
  by_cases hjk : j = k
  · subst hjk
    refine ⟨i, hi, .inl hm, ?_⟩
    rw [List.getD_eq_getElem?_getD, List.getElem?_set_self (by rw [List.length_set, h.1]; omega)]; rfl
  · by_cases hji : j = i
    · subst hji
      refine ⟨k, by omega, .inr hm, ?_⟩
      rw [List.getD_eq_getElem?_getD, List.getElem?_set_ne (fun e => hjk e.symm), List.getElem?_set_self (by rw [h.1]; omega)]; rfl
    · obtain ⟨p, h1, h2, h3⟩ := h.2 j (by omega) (by simp only [List.mem_append, List.mem_singleton, not_or]; exact ⟨hns, hjk⟩)
      refine ⟨p, h1, h2, ?_⟩
      rw [List.getD_eq_getElem?_getD, List.getElem?_set_ne (fun e => hjk e.symm), List.getElem?_set_ne (fun e => hji e.symm), ← List.getD_eq_getElem?_getD]; exact h3
theorem HalfMatch.all {f : Nat → Nat} {n : Nat} {l : List Int} (h : HalfMatch f n n [] l) : IsMatch f n l := ⟨h.1, fun i hi => h.2 i hi (by simp)⟩
end Go.Dam
namespace Go.Proofs.Ytiflelifkjfpdaa
open Go Go.RowKit Go.Dam
set_option linter.unusedVariables false
/-- What matches returns: of brackets the places, and true; else false. -/
def GivesMatches (s : ByteArray) (w : World) (e : Ending) (w' : World) : Prop :=
  (Brackets (chr s) s.size ∧ ∃ l, IsMatch (chr s) s.size l ∧ e = .returned (.tuple #[.slice (some ⟨w.heap.size, 0, none⟩) s.size s.size, .bool true]) ∧ IBlk .i64 3 w' w.heap.size l ∧ Below w.heap.size w w') ∨
  (¬ Brackets (chr s) s.size ∧ ∃ v, e = .returned (.tuple #[v, .bool false]) ∧ Below w.heap.size w w')
set_option maxHeartbeats 2000000 in
theorem matches_any (s : ByteArray) (w : World) (hs : s.size ≤ 400) :
    Calls Try.prog 67 #[.string s] w (GivesMatches s w) := by
  have hmk := fun w' => run_make1 el_int rfl s.size s.size rfl (by omega) (by omega) w'
  go_enter Try.func67, Try.ntmps67
  go_wp2_with fail
  clear hmk
  go_loopw [5, 13] (fun ov iv wr => ∃ i : Nat, ∃ st : List Nat, ∃ l : List Int, i ≤ s.size ∧ iv = .int .i64 i ∧ Opens (chr s) i st ∧ Fine (chr s) i ∧ HalfMatch (chr s) s.size i st l ∧ wr.ownsRow (w.heap.size + 1) 3 1 ov st.length (st.map natV) ∧
      IBlk .i64 3 wr w.heap.size l ∧ Below w.heap.size w wr) (fun _ iv _ => s.size - (intOf iv).toNat)
  case atStart =>
    refine ⟨0, [], List.replicate s.size 0, by omega, rfl, Opens.nil _, Fine.nil _, ⟨by simp, fun j hj => absurd hj (by omega)⟩, World.ownsRow_nil _ _ _ _, IBlk.zeros w s.size, (Below.refl _ _).alloc (Nat.le_refl _) _⟩
  case round =>
    obtain ⟨i, st, l, hi, rfl, hop, hfine, hhalf, hown, hblk, hbel⟩ := hrel
    have HOp := Lib.hid hop
    have HFine := Lib.hid hfine
    have HHalf := Lib.hid hhalf
    have HO := Lib.hid hown
    have HBlk := Lib.hid hblk
    have HB := Lib.hid hbel
    have hz := hbel.size
    have hbz := hblk.lt
    by_cases hlt : i < s.size
    · have hch := chr_at hlt
      have hc256 := chr_lt s i
      have hstl := hop.len_le
      by_cases h40 : chr s i = 40
      · have t0 : ((s[i].toNat : Int) == 40) = true := by rw [hch, h40]; rfl
        have HN1 := Lib.hid (hop.push h40)
        have HN2 := Lib.hid (hfine.next (.inl h40) (by rw [dep_open h40]; have := hfine.2 i (Nat.le_refl _); omega))
        have HN3 := Lib.hid hhalf.push
        obtain ⟨A2, cap2, rfl⟩ := own_shape hown
        clear hop hfine hhalf hown hblk hbel hch h40
        go_wp2_with (at_builtin; refine wpList_pushD el_int rfl (.tmp 40) (.tmp 42) rfl (w.heap.size + 1) _ st.length _ (HO.out.alloc _) rfl wr.heap.size 1 _ rfl (by simp; rfl) rfl (by omega) (by omega) (by simp; omega) ?_; intro v' w2 hown2 hg2 hl2)
        go_roundw
        case rel => exact ⟨i + 1, st ++ [i], l, by omega, by go_num, HN1.out, HN2.out, HN3.out, by rw [List.length_append, List.map_append]; exact hown2, (HBlk.out.alloc _).grown hg2 (fun e => own_ne (HO.out.alloc (.cells #[.int .i64 (i : Int)] 3)) (Nat.lt_succ_self _) e.symm), below_push (HB.out.alloc hz _) (HO.out.alloc _) (Nat.le_succ _) (by simp; omega) hg2⟩
        case measure => simp [intOf]; omega
      · have t0 : ((s[i].toNat : Int) == 40) = false := by rw [hch, beq_eq_false_iff_ne]; omega
        by_cases h41 : chr s i = 41
        · have t1 : ((s[i].toNat : Int) != 41) = false := by rw [hch, h41]; rfl
          rcases snoc_cases st with rfl | ⟨st', k, rfl⟩
          · have HNo : Hid (¬ Brackets (chr s) s.size) := Lib.hid fun hb => by
              have a := hb.2.1 (i + 1) (by omega)
              rw [dep_close h40] at a
              have b := hop.1
              simp at b; omega
            obtain ⟨A2, cap2, rfl⟩ := own_shape hown
            clear hop hfine hhalf hown hblk hbel hch h40 h41
            go_wp2_with fail
            go_ret2
            exact .inr ⟨HNo.out, _, rfl, HB.out⟩
          · obtain ⟨hm, hpop⟩ := hop.pop h40
            have HN1 := Lib.hid hpop
            have HN2 := Lib.hid (hfine.next (.inr h41) (by have := hpop.1; omega))
            have HN3 := Lib.hid (hhalf.pop hlt hm)
            have hki := hm.lt
            have hll := hhalf.1
            rw [List.map_append, List.length_append, List.length_singleton] at hown
            obtain ⟨A2, cap2, rfl⟩ := own_shape hown
            obtain ⟨g, rfl, hg, htop⟩ := own_top hown
            have k9 : wr.cell? ⟨g, st'.length, none⟩ = some (.int .i64 (k : Int)) := htop
            clear htop
            have HP := Lib.hid (own_pop hown)
            have hcap : st'.length + 1 ≤ cap2 := by
              obtain ⟨g', cap', hf, _, _⟩ := hown.form (by omega)
              injection hf with _ _ hcc
              rcases hown.2 with ⟨hnn, _⟩ | ⟨g2, c2, cur, hv, _, _, h5, _⟩
              · cases hnn
              · injection hv with _ _ hcc2; omega
            have f0 := hblk.frozen i
            have f1 := hblk.frozen k
            have k0 := hblk.cell (i := i) (by omega)
            have k1 := hblk.cell (i := k) (by omega)
            have HS := Lib.hid ((hblk.set i (k : Int)).set k (i : Int))
            have hne : i ≠ k := by omega
            rw [List.length_append, List.length_singleton] at hstl
            clear hop hfine hhalf hown hblk hbel hch h40 h41 hm hpop
            go_wp2_with fail
            go_roundw
            case rel => exact ⟨i + 1, st', _, by omega, by go_num, HN1.out, HN2.out, HN3.out, ownsRow_setCell_below (ownsRow_setCell_below HP.out (a := ⟨w.heap.size, i, none⟩) (by simp) _) (a := ⟨w.heap.size, k, none⟩) (by simp) _, HS.out, (HB.out.setCell (p := ⟨w.heap.size, i, none⟩) (Nat.le_refl _) _).setCell (p := ⟨w.heap.size, k, none⟩) (Nat.le_refl _) _⟩
            case measure => simp [intOf]; omega
        · have t1 : ((s[i].toNat : Int) != 41) = true := by rw [hch]; simp; omega
          have HNo : Hid (¬ Brackets (chr s) s.size) := Lib.hid fun hb => by
            rcases hb.1 i hlt with a | a
            · exact h40 a
            · exact h41 a
          obtain ⟨A2, cap2, rfl⟩ := own_shape hown
          clear hop hfine hhalf hown hblk hbel hch h40 h41
          go_wp2_with fail
          go_ret2
          exact .inr ⟨HNo.out, _, rfl, HB.out⟩
    · obtain rfl : i = s.size := by omega
      have hop1 := hop.1
      obtain ⟨A2, cap2, rfl⟩ := own_shape hown
      by_cases hst : st.length = 0
      · have hnil : st = [] := List.eq_nil_of_length_eq_zero hst
        subst hnil
        have HYes : Hid (Brackets (chr s) s.size) := Lib.hid (hfine.all (by simpa using hop1.symm))
        have HM := Lib.hid hhalf.all
        clear hop hfine hhalf hown hblk hbel hop1
        go_wp2_with fail
        go_ret2
        exact .inl ⟨HYes.out, l, HM.out, rfl, HBlk.out, HB.out⟩
      · have HNo : Hid (¬ Brackets (chr s) s.size) := Lib.hid fun hb => by have := hb.2.2; omega
        have t0 : ((st.length : Int) == 0) = false := by rw [beq_eq_false_iff_ne]; omega
        clear hop hfine hhalf hown hblk hbel hop1
        go_wp2_with fail
        go_ret2
        exact .inr ⟨HNo.out, _, rfl, HB.out⟩
/-- What matched returns. -/
def GivesMatched (s : ByteArray) (c : Int) (w : World) (e : Ending) (w' : World) : Prop :=
  ∃ v, e = .returned (.tuple #[v, .int .i64 c]) ∧ Below w.heap.size w w' ∧ (c = 0 → ∃ l, IsMatch (chr s) s.size l ∧ v = .slice (some ⟨w.heap.size, 0, none⟩) s.size s.size ∧ IBlk .i64 3 w' w.heap.size l)
set_option maxHeartbeats 400000 in
theorem matched_any (s : ByteArray) (c : Int) (w : World) (hs : s.size ≤ 140737488351232) (hc : ParenC s c) :
    Calls Try.prog 56 #[.string s] w (GivesMatched s c w) := by
  rcases hc with ⟨h1, rfl⟩ | ⟨h1, h2, rfl⟩ | ⟨h1, h2, rfl⟩
  · go_enter Try.func56, Try.ntmps56
    go_wp2_with fail
    go_ret2
    exact ⟨_, rfl, Below.refl _ _, fun h => by cases h⟩
  · have HC := Lib.hid (matches_any s w h1)
    have H2 := Lib.hid h2
    clear h2
    go_enter Try.func56, Try.ntmps56
    go_wp2_with (go_at_call 67; refine (HC.out).mono ?_; rintro e w1 (⟨hb, _⟩ | ⟨_, v, rfl, hb1⟩); exact absurd hb H2.out)
    go_ret2
    exact ⟨_, rfl, hb1, fun h => by cases h⟩
  · have HC := Lib.hid (matches_any s w h1)
    have H2 := Lib.hid h2
    clear h2
    go_enter Try.func56, Try.ntmps56
    go_wp2_with (go_at_call 67; refine (HC.out).mono ?_; rintro e w1 (⟨_, l, hl, rfl, hblk, hb1⟩ | ⟨hb, _⟩); rotate_left; exact absurd H2.out hb; have HL := Lib.hid hl; have HK := Lib.hid hblk; clear hl hblk)
    go_ret2
    exact ⟨_, rfl, hb1, fun _ => ⟨l, HL.out, rfl, HK.out⟩⟩
set_option maxHeartbeats 400000 in
theorem parenCheck_any (s : ByteArray) (c : Int) (w : World) (hs : s.size ≤ 140737488351232) (hc : ParenC s c) :
    Calls Try.prog 30 #[.string s] w fun e w' => e = .returned (.int .i64 c) ∧ Below w.heap.size w w' := by
  have HC := Lib.hid (matched_any s c w hs hc)
  clear hc
  go_enter Try.func30, Try.ntmps30
  go_wp2_with (go_at_call 56; refine (HC.out).mono ?_; rintro e w1 ⟨v, rfl, hb1, hv⟩; clear hv)
  go_ret
  exact ⟨rfl, hb1⟩
end Go.Proofs.Ytiflelifkjfpdaa
