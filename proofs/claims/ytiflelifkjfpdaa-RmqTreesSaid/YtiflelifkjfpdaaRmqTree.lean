/-
  Contract of rmq.Tree: the list it returns is the tree of first greatest places. Conditions: the argument is a list of ints.
-/
import Derived.Test.YtiflelifkjfpdaaRmqTreePlain
import Derived.Test.YtiflelifkjfpdaaIntBlk
import Derived.Test.YtiflelifkjfpdaaOwnBlk
namespace Go.Dam
open Go Go.RowKit
set_option linter.unusedVariables false
/-- A stack of places (its last one first) as it lies in memory. -/
def stV (st : List Nat) : List Value := st.reverse.map fun k : Nat => Value.int .i64 (k : Int)
theorem stV_nil : stV [] = [] := rfl
theorem stV_cons (s : Nat) (r : List Nat) : stV (s :: r) = stV r ++ [.int .i64 (s : Int)] := by simp [stV]
/-- The list is the tree of l. -/
def TreeOf (l o : List Int) : Prop := o.length = l.length ∧ Tr (fun k => l.getD k 0) (fun k => o.getD k 0) 0 l.length (-1)
theorem TreeOf.uniq {l o o' : List Int} (h : TreeOf l o) (g : TreeOf l o') : o = o' := by
  apply List.ext_getElem
  · rw [h.1, g.1]
  · intro i h1 h2
    have := h.2.uniq g.2 i (by omega) (by rw [← h.1]; exact h1)
    simpa [h1, h2] using this
/-- What Tree answers. -/
def GivesTree (l : List Int) (w : World) (e : Ending) (w' : World) : Prop :=
  ∃ v o c, e = .returned (.tuple #[v, .int .i64 c]) ∧ IsInts .i64 w' w'.heap.size v o ∧ Below w.heap.size w w' ∧ ((300 < l.length ∧ o = [] ∧ c = 1) ∨ (l.length ≤ 300 ∧ TreeOf l o ∧ c = 0))
theorem tree_wf {l o : List Int} (hl : l.length ≤ 300) (h : TreeOf l o) : ∀ z ∈ o, (Lit.int .i64 z).wf = true := by
  have key : ∀ {f g : Nat → Int} {a b : Nat} {p : Int}, Tr f g a b p → -1 ≤ p → p < 1000 → b ≤ 300 → ∀ x, a ≤ x → x < b → -1 ≤ g x ∧ g x < 1000 := by
    intro f g a b p h
    induction h with
    | nil h => intro _ _ _ x h1 h2; omega
    | node h ho l r ihl ihr =>
      rename_i a b t p
      intro p1 p2 hb x h1 h2
      have := h.lo; have := h.hi
      rcases Nat.lt_trichotomy x t with h3 | h3 | h3
      · exact ihl (by omega) (by omega) (by omega) x h1 h3
      · rw [h3, ho]; omega
      · exact ihr (by omega) (by omega) (by omega) x h3 h2
  intro z hz
  obtain ⟨i, hi, rfl⟩ := List.mem_iff_getElem.1 hz
  have := key h.2 (by omega) (by omega) hl i (by omega) (by rw [← h.1]; exact hi)
  have e : o.getD i 0 = o[i] := by simp [hi]
  simp only [e] at this
  exact int_wf (by unfold I64; omega)
end Go.Dam
namespace Go.Proofs.Ytiflelifkjfpdaa
open Go Go.RowKit Go.Dam
set_option linter.unusedVariables false
set_option maxHeartbeats 2000000 in
theorem rmqTree_any (v : Value) (l : List Int) (w : World) (B : Nat) (hB : B ≤ w.heap.size) (h : IsInts .i64 w B v l) :
    Calls Try.prog 18 #[v] w (GivesTree l w) := by
  obtain ⟨A, c, rfl, hc, hm, hn, hr, hw⟩ := h
  by_cases h1 : 300 < l.length
  · clear hr hw
    go_enter Try.func18, Try.ntmps18
    go_wp2_with fail
    go_ret2
    exact ⟨_, [], 1, rfl, isInts_nil _ _ _, Below.refl _ _, .inl ⟨h1, rfl, rfl⟩⟩
  have h1 : l.length ≤ 300 := by omega
  have hmk := fun w' => run_make1 el_int rfl l.length l.length rfl (by omega) (by omega) w'
  rw [zerosV_eq] at hmk
  obtain ⟨F, hF⟩ : ∃ F : Nat → Int, F = fun k => l.getD k 0 := ⟨_, rfl⟩
  have HF : Hid (∀ k, l.getD k 0 = F k) := Lib.hid fun k => by rw [hF]
  have HFF := Lib.hid hF
  clear hw hF
  go_enter Try.func18, Try.ntmps18
  go_wp2_with fail
  clear hmk
  go_loopw [5, 17] (fun ov iv wr => ∃ i : Nat, ∃ st : List Nat, ∃ o : List Int, i ≤ l.length ∧ iv = .int .i64 i ∧ Hang F (fun k => o.getD k 0) i st (-1) ∧ Sp F (fun k => o.getD k 0) i st ∧ wr.ownsRow (w.heap.size + 1) 3 1 ov st.length (stV st) ∧
      o.length = l.length ∧ IBlk .i64 3 wr w.heap.size o ∧ Below w.heap.size w wr) (fun _ iv _ => l.length - (intOf iv).toNat)
  case atStart =>
    refine ⟨0, [], List.replicate l.length 0, by omega, rfl, Hang.start lowOf_nil, Sp_nil _ _ _, by rw [stV_nil]; exact World.ownsRow_nil _ _ _ _, by simp, IBlk.zerosV_at 3 w l.length _ rfl, (Below.refl _ _).alloc (Nat.le_refl _) _⟩
  case round =>
    obtain ⟨wo, rfl⟩ : ∃ wo : World, wo = wr := ⟨_, rfl⟩
    obtain ⟨i, st, o, hi, rfl, hhang, hsp, hown, hol, hblk, hbel⟩ := hrel
    have hz := hbel.size
    have hbz := hblk.lt
    by_cases hlt : i < l.length
    · obtain ⟨b, off, rfl, hb, hcells⟩ := ints_cells hr (by omega)
      have HCells := Lib.hid fun k hk => (hbel.cell (p := ⟨b, off + k, none⟩) (by simp; omega)).trans (hcells k hk)
      have k0 := HCells.out i hlt
      rw [HF.out i] at k0
      have hol2 : i < o.length := by omega
      have f0 := hblk.frozen i
      have c0 := hblk.cell hol2
      have HBlk := Lib.hid (hblk.set i (-1))
      have HO := Lib.hid (ownsRow_setCell_below hown (a := ⟨w.heap.size, i, none⟩) (by simp) (.int .i64 (-1)))
      have HB := Lib.hid (hbel.setCell (p := ⟨w.heap.size, i, none⟩) (Nat.le_refl _) (.int .i64 (-1)))
      have HCells2 := Lib.hid fun k hk => (World.cell?_setCell_other wo ⟨w.heap.size, i, none⟩ ⟨b, off + k, none⟩ (.int .i64 (-1)) (ne_blk (by omega))).trans (HCells.out k hk)
      have hag : ∀ x, x < i → (o.set i (-1)).getD x 0 = o.getD x 0 := fun x hx => set_getD_ne (by omega) _
      have hlow := hhang.lows
      have HSp := Lib.hid (hsp.congr (o' := fun k => (o.set i (-1)).getD k 0) fun x hx => hag x (by omega))
      have HHang : Hid (lowOf st = i) := Lib.hid (by
        unfold Hang at hhang
        rcases hhang with ⟨_, h⟩ | ⟨s, h, _⟩
        · exact h
        · omega)
      have hol3 : (o.set i (-1)).length = l.length := by rw [List.length_set]; exact hol
      have HSet := Lib.hid (set_getD_same (l := o) hol2 (-1))
      have hzo : w.heap.size < (wo.setCell ⟨w.heap.size, i, none⟩ (.int .i64 (-1))).heap.size := by simpa using hbz
      obtain ⟨A2, c2, rfl⟩ := own_shape hown
      clear hhang hsp hown hblk hbel HCells hag hlow hcells
      go_wp2_with fail
      generalize wo.setCell ⟨w.heap.size, i, none⟩ (.int .i64 (-1)) = W at *
      generalize ho1 : o.set i (-1) = o1 at *
      go_loop [5, 8] (fun ov lv => ∃ st : List Nat, ∃ last : Int, lv = .int .i64 last ∧ Hang F (fun k => o1.getD k 0) i st last ∧ Sp F (fun k => o1.getD k 0) i st ∧ (∀ x, lowOf st ≤ x → x < i → F x < F i) ∧ W.ownsRow (w.heap.size + 1) 3 1 ov st.length (stV st)) (fun ov _ => match ov with | .slice _ n _ => n | _ => 0)
      case atStart => exact ⟨st, -1, rfl, Hang.start HHang.out, HSp.out, fun x h1 h2 => by have := HHang.out; omega, HO.out⟩
      case round =>
        clear HO HSp HHang
        obtain ⟨st, last, rfl, hhang, hsp, hlt3, hown⟩ := hrel
        cases st with
        | nil =>
          rw [stV_nil, List.length_nil] at hown
          obtain ⟨A3, c3, rfl⟩ := own_shape hown
          rcases Int.lt_or_le last 0 with hl0 | hl0
          · obtain rfl : last = -1 := by have := hhang.bd; omega
            have hpush := hhang.push (o' := fun k => o1.getD k 0) hsp hlt3 (fun s h => by simp at h) hhang.lows (by show o1.getD i 0 = _; rw [HSet.out, parOf_nil]) (fun h => by omega) (fun x hx hne => by show o1.getD x 0 = _; rfl)
            have HP1 := Lib.hid hpush.1
            have HP2 := Lib.hid hpush.2
            have HOL : Hid (o1.length = l.length) := Lib.hid (by first | exact hol3 | (simp only [List.length_set]; exact hol3))
            have HOwn := Lib.hid hown
            have HBlk2 := Lib.hid HBlk.out
            have HO2 := Lib.hid HOwn.out
            have HB2 := Lib.hid HB.out
            clear hpush hhang hsp hlt3 hown
            go_wp2_with (at_builtin; refine wpList_push el_int rfl (.tmp 70) (.tmp 72) rfl (w.heap.size + 1) _ 0 _ (HO2.out.alloc _) rfl W.heap.size 1 _ rfl (new_cell (by simp)) rfl (by omega) (by omega) (by first | (simp; omega) | simp) ?_; intro v' w2 hown2 hg2)
            refine ⟨⟨i + 1, i :: [], o1, by omega, by go_num, HP2.out, HP1.out, ?_, HOL.out, (HBlk2.out.alloc _).grown hg2 (fun e => own_ne (HO2.out.alloc (.cells #[.int .i64 (i : Int)] 3)) (Nat.lt_succ_self _) e.symm), below_push (HB2.out.alloc (by first | omega | (simp; omega)) _) (HO2.out.alloc _) (Nat.le_succ _) (by first | (simp; omega) | simp) hg2⟩, by simp [intOf]; omega⟩
            rw [stV_cons]; exact hown2
          · obtain ⟨s0, rfl⟩ := Int.eq_ofNat_of_zero_le hl0
            have hs0i : s0 < i := by have := hhang.bd; omega
            have hs0o : s0 < o1.length := by omega
            have c1 := HBlk.out.cell hs0o
            have f1 := HBlk.out.frozen s0
            have hpush := hhang.push (o' := fun k => (o1.set s0 (i : Int)).getD k 0) hsp hlt3 (fun s h => by simp at h) hhang.lows (by show (o1.set s0 (i : Int)).getD i 0 = _; rw [set_getD_ne (by omega), HSet.out, parOf_nil]) (fun _ => by show (o1.set s0 (i : Int)).getD (Int.toNat (s0 : Int)) 0 = _; rw [Int.toNat_natCast, set_getD_same hs0o]) (fun x hx hne => by show (o1.set s0 (i : Int)).getD x 0 = _; rw [set_getD_ne (by omega)])
            have HP1 := Lib.hid hpush.1
            have HP2 := Lib.hid hpush.2
            have HOL : Hid ((o1.set s0 (i : Int)).length = l.length) := Lib.hid (by first | exact hol3 | (simp only [List.length_set]; exact hol3))
            have HOwn := Lib.hid hown
            have HBlk2 := Lib.hid (HBlk.out.set s0 (i : Int))
            have HO2 := Lib.hid (ownsRow_setCell_below HOwn.out (a := ⟨w.heap.size, s0, none⟩) (by simp) (.int .i64 (i : Int)))
            have HB2 := Lib.hid (HB.out.setCell (p := ⟨w.heap.size, s0, none⟩) (Nat.le_refl _) (.int .i64 (i : Int)))
            clear hpush hhang hsp hlt3 hown
            go_wp2_with (at_builtin; refine wpList_push el_int rfl (.tmp 70) (.tmp 72) rfl (w.heap.size + 1) _ 0 _ (HO2.out.alloc _) rfl W.heap.size 1 _ rfl (new_cell (by simp)) rfl (by omega) (by omega) (by first | (simp; omega) | simp) ?_; intro v' w2 hown2 hg2)
            refine ⟨⟨i + 1, i :: [], (o1.set s0 (i : Int)), by omega, by go_num, HP2.out, HP1.out, ?_, HOL.out, (HBlk2.out.alloc _).grown hg2 (fun e => own_ne (HO2.out.alloc (.cells #[.int .i64 (i : Int)] 3)) (Nat.lt_succ_self _) e.symm), below_push (HB2.out.alloc (by first | omega | (simp; omega)) _) (HO2.out.alloc _) (Nat.le_succ _) (by first | (simp; omega) | simp) hg2⟩, by simp [intOf]; omega⟩
            rw [stV_cons]; exact hown2
        | cons s r =>
          rw [stV_cons, List.length_cons] at hown
          obtain ⟨A3, c3, rfl⟩ := own_shape hown
          obtain ⟨gs, rfl, hgs, htop⟩ := own_top hown
          have hsi := hsp.head_lt
          have hcap := own_cap hown
          have hrl : r.length < 1000 := by have := hsp.len; rw [lowOf_cons, List.length_cons] at this; omega
          have k1 := (HCells2.out s (by omega))
          rw [HF.out s] at k1
          by_cases hless : F s < F i
          · have hpop := hhang.pop hsp
            have HN1 := Lib.hid hpop
            have HN2 := Lib.hid hsp.tail
            have HN3 := Lib.hid (below_pop hsp hless hlt3)
            have HN4 := Lib.hid (own_pop hown)
            generalize F s = x at *
            generalize F i = y at *
            clear hhang hsp hlt3 hown hpop
            go_wp2_with fail
            go_round
            case rel => exact ⟨r, s, rfl, HN1.out, HN2.out, HN3.out, HN4.out⟩
            case measure => simp [intOf] <;> omega
          · have t1 : decide (F s < F i) = false := by rw [decide_eq_false_iff_not]; exact hless
            rcases Int.lt_or_le last 0 with hl0 | hl0
            · obtain rfl : last = -1 := by have := hhang.bd; omega
              have hpush := hhang.push (o' := fun k => (o1.set i (s : Int)).getD k 0) hsp hlt3 (fun s' h => by simp at h; subst h; omega) hhang.lows (by show (o1.set i (s : Int)).getD i 0 = _; rw [set_getD_same (by first | omega | (simp; omega)), parOf_cons]) (fun h => by omega) (fun x hx hne => by show (o1.set i (s : Int)).getD x 0 = _; rw [set_getD_ne (by omega)])
              have HP1 := Lib.hid hpush.1
              have HP2 := Lib.hid hpush.2
              have HOL : Hid ((o1.set i (s : Int)).length = l.length) := Lib.hid (by first | exact hol3 | (simp only [List.length_set]; exact hol3))
              have HOwn := Lib.hid hown
              have c2 := HBlk.out.cell (i := i) (by omega)
              have f2 := HBlk.out.frozen i
              have HBlk2 := Lib.hid (HBlk.out.set i (s : Int))
              have HO2 := Lib.hid (ownsRow_setCell_below HOwn.out (a := ⟨w.heap.size, i, none⟩) (by simp) (.int .i64 (s : Int)))
              have HB2 := Lib.hid (HB.out.setCell (p := ⟨w.heap.size, i, none⟩) (Nat.le_refl _) (.int .i64 (s : Int)))
              clear hpush hhang hsp hlt3 hown
              go_wp2_with (at_builtin; refine wpList_push el_int rfl (.tmp 70) (.tmp 72) rfl (w.heap.size + 1) _ (r.length + 1) _ (HO2.out.alloc _) rfl W.heap.size 1 _ rfl (new_cell (by simp)) rfl (by omega) (by omega) (by first | (simp; omega) | simp) ?_; intro v' w2 hown2 hg2)
              refine ⟨⟨i + 1, i :: (s :: r), (o1.set i (s : Int)), by omega, by go_num, HP2.out, HP1.out, ?_, HOL.out, (HBlk2.out.alloc _).grown hg2 (fun e => own_ne (HO2.out.alloc (.cells #[.int .i64 (i : Int)] 3)) (Nat.lt_succ_self _) e.symm), below_push (HB2.out.alloc (by first | omega | (simp; omega)) _) (HO2.out.alloc _) (Nat.le_succ _) (by first | (simp; omega) | simp) hg2⟩, by simp [intOf]; omega⟩
              rw [stV_cons, stV_cons]; exact hown2
            · obtain ⟨s0, rfl⟩ := Int.eq_ofNat_of_zero_le hl0
              have hs0i : s0 < i := by have := hhang.bd; omega
              have hs0o : s0 < o1.length := by omega
              have c1 := HBlk.out.cell hs0o
              have f1 := HBlk.out.frozen s0
              have hpush := hhang.push (o' := fun k => ((o1.set s0 (i : Int)).set i (s : Int)).getD k 0) hsp hlt3 (fun s' h => by simp at h; subst h; omega) hhang.lows (by show ((o1.set s0 (i : Int)).set i (s : Int)).getD i 0 = _; rw [set_getD_same (by first | omega | (simp; omega)), parOf_cons]) (fun _ => by show ((o1.set s0 (i : Int)).set i (s : Int)).getD (Int.toNat (s0 : Int)) 0 = _; rw [Int.toNat_natCast, set_getD_ne (by omega), set_getD_same hs0o]) (fun x hx hne => by show ((o1.set s0 (i : Int)).set i (s : Int)).getD x 0 = _; rw [set_getD_ne (by omega), set_getD_ne (by omega)])
              have HP1 := Lib.hid hpush.1
              have HP2 := Lib.hid hpush.2
              have HOL : Hid (((o1.set s0 (i : Int)).set i (s : Int)).length = l.length) := Lib.hid (by first | exact hol3 | (simp only [List.length_set]; exact hol3))
              have HOwn := Lib.hid hown
              have c2 := (HBlk.out.set s0 (i : Int)).cell (i := i) (by simp; omega)
              have f2 := (HBlk.out.set s0 (i : Int)).frozen i
              have k5 := (World.cell?_setCell_other W ⟨w.heap.size, s0, none⟩ ⟨gs, r.length, none⟩ (.int .i64 (i : Int)) (ne_blk (by omega))).trans htop
              have HBlk2 := Lib.hid ((HBlk.out.set s0 (i : Int)).set i (s : Int))
              have HO2 := Lib.hid (ownsRow_setCell_below (ownsRow_setCell_below HOwn.out (a := ⟨w.heap.size, s0, none⟩) (by simp) (.int .i64 (i : Int))) (a := ⟨w.heap.size, i, none⟩) (by simp) (.int .i64 (s : Int)))
              have HB2 := Lib.hid ((HB.out.setCell (p := ⟨w.heap.size, s0, none⟩) (Nat.le_refl _) (.int .i64 (i : Int))).setCell (p := ⟨w.heap.size, i, none⟩) (Nat.le_refl _) (.int .i64 (s : Int)))
              clear hpush hhang hsp hlt3 hown
              go_wp2_with (at_builtin; refine wpList_push el_int rfl (.tmp 70) (.tmp 72) rfl (w.heap.size + 1) _ (r.length + 1) _ (HO2.out.alloc _) rfl W.heap.size 1 _ rfl (new_cell (by simp)) rfl (by omega) (by omega) (by first | (simp; omega) | simp) ?_; intro v' w2 hown2 hg2)
              refine ⟨⟨i + 1, i :: (s :: r), ((o1.set s0 (i : Int)).set i (s : Int)), by omega, by go_num, HP2.out, HP1.out, ?_, HOL.out, (HBlk2.out.alloc _).grown hg2 (fun e => own_ne (HO2.out.alloc (.cells #[.int .i64 (i : Int)] 3)) (Nat.lt_succ_self _) e.symm), below_push (HB2.out.alloc (by first | omega | (simp; omega)) _) (HO2.out.alloc _) (Nat.le_succ _) (by first | (simp; omega) | simp) hg2⟩, by simp [intOf]; omega⟩
              rw [stV_cons, stV_cons]; exact hown2
    · obtain rfl : i = l.length := by omega
      have HT := Lib.hid (hhang.all hsp)
      have hl2 := hblk.isInts (by omega)
      clear hhang hsp hblk
      go_wp2_with fail
      go_ret2
      have ht : TreeOf l o := ⟨hol, by have := HT.out; rw [HFF.out] at this; exact this⟩
      refine ⟨_, o, 0, rfl, ?_, hbel, .inr ⟨h1, ht, rfl⟩⟩
      rw [← hol]; exact hl2 (tree_wf h1 ht)
end Go.Proofs.Ytiflelifkjfpdaa
