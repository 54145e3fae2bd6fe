/-
  Contract of paren.Text: the text of a tree, by the stack of open nodes. Conditions: the argument is a list of ints.
-/
import Derived.Test.YtlojecajonhmhaaMParenTexts16
set_option linter.unusedVariables false
set_option linter.unusedSimpArgs false
namespace Go.Dam
open Go Go.RowKit
set_option linter.unusedVariables false
theorem own_cut {w : World} {base n d c : Nat} {T : TypeId} {A : Option Addr} {xs : List Value} (h : w.ownsRow base T 1 (.slice A n c) n xs) (hd : d ≤ n) : w.ownsRow base T 1 (.slice A d c) d (xs.take d) := by
  obtain ⟨h1, h2⟩ := h
  refine ⟨by rw [List.length_take]; omega, ?_⟩
  rcases h2 with ⟨e, h0⟩ | ⟨g, cap, cur, e1, e2, e3, e4, e5, e6, e7⟩
  · injection e with ea eb ec
    subst ea; subst ec
    have : d = 0 := by omega
    subst this
    exact .inl ⟨rfl, rfl⟩
  · injection e1 with ea eb ec
    subst ea; subst ec
    refine .inr ⟨g, c, cur, rfl, e2, e3, by omega, e5, e6, ?_⟩
    rw [← e7, List.take_take, show min d (n * 1) = d * 1 from by omega]
theorem bc_app (a b : List UInt8) : Lib.byteCells a ++ Lib.byteCells b = Lib.byteCells (a ++ b) := by simp [Lib.byteCells]
theorem bc_close (a : List UInt8) (n : Nat) : Lib.byteCells a ++ Lib.strCells (closeS n) = Lib.byteCells (a ++ List.replicate n 41) := by rw [closeS_cells, bc_app]
theorem bc_open (a : List UInt8) : Lib.byteCells a ++ [Value.int .u8 40] = Lib.byteCells (a ++ [40]) := by rw [← bc_app]; rfl
/-- How far the text is told. -/
structure TxtTo (ps : List Int) (i : Nat) (op : List Nat) (T : List UInt8) : Prop where
  le : i ≤ ps.length
  run : runL ps 0 [] = (runL (ps.drop i) i op).map fun t => T ++ t
  len : T.length + op.length = 2 * i
theorem TxtTo.start (ps : List Int) : TxtTo ps 0 [] [] := ⟨by omega, by rw [List.drop_zero]; cases runL ps 0 [] <;> rfl, rfl⟩
theorem TxtTo.bad {ps : List Int} {i : Nat} {op : List Nat} {T : List UInt8} (h : TxtTo ps i op T) (hi : i < ps.length) (hc : cutL op (ps.getD i 0) = none) : runL ps 0 [] = none := by
  rw [h.run, List.drop_eq_getElem_cons hi]
  rw [List.getD_eq_getElem?_getD, List.getElem?_eq_getElem hi, Option.getD_some] at hc
  rw [runL_bad hc]; rfl
theorem TxtTo.go {ps : List Int} {i : Nat} {op k r : List Nat} {T : List UInt8} (h : TxtTo ps i op T) (hi : i < ps.length) (hc : cutL op (ps.getD i 0) = some (k, r)) : TxtTo ps (i + 1) (k ++ [i]) (T ++ List.replicate r.length 41 ++ [40]) := by
  refine ⟨hi, ?_, ?_⟩
  · have hc2 := hc
    rw [List.getD_eq_getElem?_getD, List.getElem?_eq_getElem hi, Option.getD_some] at hc2
    rw [h.run, List.drop_eq_getElem_cons hi, runL_go hc2]
    cases runL (ps.drop (i + 1)) (i + 1) (k ++ [i]) <;> simp
  · have := h.len
    obtain ⟨rfl, _⟩ := cutL_some hc
    simp at this ⊢; omega
theorem TxtTo.last {ps : List Int} {op : List Nat} {T : List UInt8} (h : TxtTo ps ps.length op T) : runL ps 0 [] = some (T ++ List.replicate op.length 41) := by
  rw [h.run, List.drop_length, runL_nil]; rfl
end Go.Dam
namespace Go.Proofs.Ytlojecajonhmhaa
open Go Go.RowKit Go.Dam
set_option linter.unusedVariables false
set_option maxRecDepth 100000 in
set_option maxHeartbeats 40000000 in
theorem parenText_any (v : Value) (ps : List Int) (t : List UInt8) (cc : Int) (w : World) (B : Nat) (hB : B ≤ w.heap.size) (h : IsInts .i64 w B v ps) (hR : TextAns ps t cc) :
    Calls Try.prog 10 #[v] w fun e w' => e = .returned (.tuple #[.string ⟨t.toArray⟩, .int .i64 cc]) ∧ Below w.heap.size w w' := by
  obtain ⟨A, c, rfl, hc, hm, hn, hr, hw⟩ := h
  by_cases hbig : 200 < ps.length
  · obtain ⟨rfl, rfl⟩ : cc = 1 ∧ t = [] := by
      rcases hR with ⟨_, h⟩ | ⟨h, _⟩ | ⟨h, _⟩
      · exact h
      · omega
      · omega
    have t0 : decide ((200 : Int) < (ps.length : Int)) = true := decide_eq_true (by omega)
    clear hR hr hw
    go_enter Try.func10, Try.ntmps10
    go_wp2
    go_ret2
    exact ⟨rfl, Below.refl _ _⟩
  have t0 : decide ((200 : Int) < (ps.length : Int)) = false := decide_eq_false (by omega)
  have HR : Hid ((runL ps 0 [] = none ∧ cc = 4 ∧ t = []) ∨ (runL ps 0 [] = some t ∧ cc = 0)) := Lib.hid (by
    rcases hR with ⟨h, _⟩ | ⟨_, h⟩ | ⟨_, h⟩
    · omega
    · exact .inl h
    · exact .inr h)
  have HC : Hid (0 < ps.length → ∃ b off, A = some ⟨b, off, none⟩ ∧ b < B ∧ ∀ j, j < ps.length → w.cell? ⟨b, off + j, none⟩ = some (.int .i64 (ps.getD j 0))) := Lib.hid fun h0 => ints_cells hr h0
  clear hR hr hw
  have HF := Lib.hid (Lib.fresh_isBuilder 58 5 w)
  have HB0 := Lib.hid ((Below.refl w.heap.size w).alloc (Nat.le_refl _) (.cells #[.pointer none, .slice none 0 0] 58))
  go_enter Try.func10, Try.ntmps10
  go_wp2_with fail
  go_loopw [5, 14] (fun ov iv wr => ∃ (i : Nat) (op : List Nat) (T : List UInt8), iv = .int .i64 i ∧ TxtTo ps i op T ∧ wr.ownsRow (w.heap.size + 1) 3 1 ov op.length (opV op) ∧
      Lib.IsBuilder 58 5 w.heap.size w.heap.size (Lib.byteCells T) wr ∧ Below w.heap.size w wr ∧ w.heap.size + 1 ≤ wr.heap.size) (fun _ iv _ => ps.length - (intOf iv).toNat)
  case atStart => exact ⟨0, [], [], rfl, TxtTo.start ps, by unfold opV; exact World.ownsRow_nil _ _ _ _, HF.out, HB0.out, by simp⟩
  case round =>
    obtain ⟨i, op, T, rfl, htold, hown, hbl, hbel, hz⟩ := hrel
    obtain ⟨A2, c2, rfl⟩ := own_shape hown
    have hile := htold.le
    have hTl := htold.len
    have hcap := own_cap hown
    have HT := Lib.hid htold
    have HO := Lib.hid hown
    have HBl := Lib.hid hbl
    have HB := Lib.hid hbel
    clear htold hown hbl hbel
    have HTL := Lib.hid hTl
    by_cases hlt : i < ps.length
    · obtain ⟨b, off, rfl, hb, hcells⟩ := HC.out (by omega)
      have k0 : wr.cell? ⟨b, off + i, none⟩ = some (.int .i64 (ps.getD i 0)) := (HB.out.cell (p := ⟨b, off + i, none⟩) (show b < w.heap.size by omega)).trans (hcells i hlt)
      have HIx := index_any (ps.getD i 0) HO.out rfl (by omega)
      cases hcut : cutL op (ps.getD i 0) with
      | none =>
        have hp1 := (cutL_none hcut).1
        have tn : (ps.getD i 0 != -1) = true := by simpa using hp1
        have HN := HT.out.bad hlt hcut
        obtain ⟨rfl, rfl⟩ : cc = 4 ∧ t = [] := by
          rcases HR.out with ⟨_, h1⟩ | ⟨h1, _⟩
          · exact h1
          · rw [HN] at h1; cases h1
        rw [opPlace_none hcut] at HIx
        have HIx := Lib.hid HIx
        generalize ps.getD i 0 = p at *
        clear hcells hcut hp1 HN hTl
        go_wp2_with (go_at_call 18; (with_reducible refine (HIx.out).mono ?_); rintro e w1 ⟨rfl, rfl⟩)
        go_ret2
        exact ⟨rfl, HB.out⟩
      | some kr =>
        obtain ⟨k, r⟩ := kr
        have HG := Lib.hid (HT.out.go hlt hcut)
        have hplace := opPlace_some hcut
        obtain ⟨rfl, hk⟩ := cutL_some hcut
        have hkp : (ps.getD i 0 = -1 ∧ k.length = 0) ∨ (ps.getD i 0 ≠ -1 ∧ 0 < k.length) := by
          rcases hk with ⟨h1, rfl⟩ | ⟨h1, q, b, rfl, _⟩
          · exact .inl ⟨h1, rfl⟩
          · exact .inr ⟨h1, by simp⟩
        obtain ⟨a, ha⟩ : ∃ a, a = opPlace (k ++ r) (ps.getD i 0) := ⟨_, rfl⟩
        rw [← ha] at HIx hplace
        have HIx := Lib.hid HIx
        have hlen : (k ++ r).length = k.length + r.length := List.length_append
        have hleft := opV_left k r
        have HCu := own_cut HO.out (d := k.length) (by omega)
        rw [hleft] at HCu
        have HCu := Lib.hid HCu
        have e2 : (((k ++ r).length : Nat) : Int) - a - 1 = (r.length : Int) := by omega
        have e3 : a + 1 = (k.length : Int) := by omega
        have HLen : Hid ((k ++ [i]).length = k.length + 1) := Lib.hid (by simp)
        have HVs := Lib.hid (opV_snoc k i)
        have HTl : Hid (T.length ≤ 400) := Lib.hid (by omega)
        have HWS := Lib.hid fun W (hI : Lib.IsBuilder 58 5 w.heap.size w.heap.size (Lib.byteCells T) W) hz => writeString_any w.heap.size w.heap.size (Lib.byteCells T) (closeS r.length) W hI (by rw [Lib.byteCells_length, closeS_size]; omega) hz
        have HWB := Lib.hid fun W (hI : Lib.IsBuilder 58 5 w.heap.size w.heap.size (Lib.byteCells (T ++ List.replicate r.length 41)) W) hz => writeByte_any w.heap.size w.heap.size (Lib.byteCells (T ++ List.replicate r.length 41)) 40 W hI (by rw [Lib.byteCells_length]; simp; omega) hz
        have HRe := Lib.hid fun W => repeat_any r.length W (by omega)
        have hb1 : a < k.length := by omega
        have hb2 : -1 ≤ a := by omega
        have hb3 : k.length + r.length ≤ 400 := by omega
        have hb4 : k.length ≤ c2 := by omega
        have hlA : (k ++ r).length ≤ k.length + r.length := by omega
        have hlB : k.length + r.length ≤ (k ++ r).length := by omega
        clear hlen
        have HKp := Lib.hid hkp
        generalize (k ++ r).length = n2 at *
        generalize k.length = kl at *
        generalize r.length = rl at *
        generalize ps.getD i 0 = p at *
        clear hcells hcut hplace ha hTl hleft hk hkp HT HTL HR HC HF HB0 HO
        rcases HKp.out with ⟨rfl, hk0⟩ | ⟨hp1, hk0⟩
        · have HK0 := Lib.hid hk0
          clear HKp hk0
          go_wp2_with (first
            | (go_at_call 18; (with_reducible refine (HIx.out).mono ?_); rintro e w1 ⟨rfl, rfl⟩)
            | (go_at_call 20; (with_reducible refine (HRe.out _).mono ?_); rintro e w2 ⟨rfl, hr2⟩; have HR2 := Lib.hid hr2; clear hr2)
            | (go_at_call 19; refine (HWS.out _ (isB_kept HBl.out HR2.out) (by have := HR2.out.size; omega)).mono ?_; rintro e w3 ⟨rfl, hr3⟩; have HR3 := Lib.hid hr3; clear hr3)
            | (at_builtin; refine wpList_pushD el_int rfl (.tmp 38) (.tmp 40) rfl (w.heap.size + 1) _ kl _ ((own_others (own_size HCu.out HR2.out) (Nat.lt_succ_self _) (by decide) HR3.out.2.2.1).alloc _) rfl w3.heap.size 1 _ rfl (by simp; rfl) rfl (by omega) (by omega) (by have := HR2.out.size; have := HR3.out.2.2.2; simp; omega) ?_; intro v4 w4 hown4 hg4 hl4; have HO4 := Lib.hid hown4; have HG4 := Lib.hid hg4; clear hown4 hg4 hl4)
            | (go_at_call 21; refine (HWB.out _ (isB_grown (isB_alloc (by have := HR3.out.1; rw [bc_close] at this; exact this) _) ((own_others (own_size HCu.out HR2.out) (Nat.lt_succ_self _) (by decide) HR3.out.2.2.1).alloc _) (by decide) (by decide) HG4.out) (by have := HR2.out.size; have := HR3.out.2.2.2; have h4 := HG4.out.size; simp at h4; omega)).mono ?_; rintro e w5 ⟨rfl, hr5⟩; have HR5 := Lib.hid hr5; clear hr5))
          have s2 := HR2.out.size
          have s3 := HR3.out.2.2.2
          have s4 := HG4.out.size
          have s5 := HR5.out.2.2.2
          simp at s4
          go_roundw
          case rel =>
            refine ⟨i + 1, k ++ [i], _, by go_num, HG.out, ?_, ?_, ?_, by omega⟩
            · rw [HLen.out, HVs.out]; exact own_others HO4.out (Nat.lt_succ_self _) (by decide) HR5.out.2.2.1
            · have := HR5.out.1
              rw [bc_open] at this
              exact this
            · exact (below_push (((HB.out.trans (HR2.out.mono (by omega))).trans HR3.out.2.1).alloc (by omega) _) ((own_others (own_size HCu.out HR2.out) (Nat.lt_succ_self _) (by decide) HR3.out.2.2.1).alloc _) (Nat.le_succ _) (by simp; omega) HG4.out).trans HR5.out.2.1
          case measure => simp [intOf]; omega
        · have tn : (p != -1) = true := by simpa using hp1
          have ta : decide (a < 0) = false := decide_eq_false (by omega)
          clear hp1 HKp
          go_wp2_with (first
            | (go_at_call 18; (with_reducible refine (HIx.out).mono ?_); rintro e w1 ⟨rfl, rfl⟩)
            | (go_at_call 20; (with_reducible refine (HRe.out _).mono ?_); rintro e w2 ⟨rfl, hr2⟩; have HR2 := Lib.hid hr2; clear hr2)
            | (go_at_call 19; refine (HWS.out _ (isB_kept HBl.out HR2.out) (by have := HR2.out.size; omega)).mono ?_; rintro e w3 ⟨rfl, hr3⟩; have HR3 := Lib.hid hr3; clear hr3)
            | (at_builtin; refine wpList_pushD el_int rfl (.tmp 38) (.tmp 40) rfl (w.heap.size + 1) _ kl _ ((own_others (own_size HCu.out HR2.out) (Nat.lt_succ_self _) (by decide) HR3.out.2.2.1).alloc _) rfl w3.heap.size 1 _ rfl (by simp; rfl) rfl (by omega) (by omega) (by have := HR2.out.size; have := HR3.out.2.2.2; simp; omega) ?_; intro v4 w4 hown4 hg4 hl4; have HO4 := Lib.hid hown4; have HG4 := Lib.hid hg4; clear hown4 hg4 hl4)
            | (go_at_call 21; refine (HWB.out _ (isB_grown (isB_alloc (by have := HR3.out.1; rw [bc_close] at this; exact this) _) ((own_others (own_size HCu.out HR2.out) (Nat.lt_succ_self _) (by decide) HR3.out.2.2.1).alloc _) (by decide) (by decide) HG4.out) (by have := HR2.out.size; have := HR3.out.2.2.2; have h4 := HG4.out.size; simp at h4; omega)).mono ?_; rintro e w5 ⟨rfl, hr5⟩; have HR5 := Lib.hid hr5; clear hr5))
          have s2 := HR2.out.size
          have s3 := HR3.out.2.2.2
          have s4 := HG4.out.size
          have s5 := HR5.out.2.2.2
          simp at s4
          go_roundw
          case rel =>
            refine ⟨i + 1, k ++ [i], _, by go_num, HG.out, ?_, ?_, ?_, by omega⟩
            · rw [HLen.out, HVs.out]; exact own_others HO4.out (Nat.lt_succ_self _) (by decide) HR5.out.2.2.1
            · have := HR5.out.1
              rw [bc_open] at this
              exact this
            · exact (below_push (((HB.out.trans (HR2.out.mono (by omega))).trans HR3.out.2.1).alloc (by omega) _) ((own_others (own_size HCu.out HR2.out) (Nat.lt_succ_self _) (by decide) HR3.out.2.2.1).alloc _) (Nat.le_succ _) (by simp; omega) HG4.out).trans HR5.out.2.1
          case measure => simp [intOf]; omega
    · obtain rfl : i = ps.length := by omega
      have HN := HT.out.last
      obtain ⟨rfl, hte⟩ : cc = 0 ∧ t = T ++ List.replicate op.length 41 := by
        rcases HR.out with ⟨h1, _⟩ | ⟨h1, h2⟩
        · rw [HN] at h1; cases h1
        · rw [HN] at h1; cases h1; exact ⟨h2, rfl⟩
      have HRe := Lib.hid fun W => repeat_any op.length W (by omega)
      have HWS := Lib.hid fun W (hI : Lib.IsBuilder 58 5 w.heap.size w.heap.size (Lib.byteCells T) W) hz => writeString_any w.heap.size w.heap.size (Lib.byteCells T) (closeS op.length) W hI (by rw [Lib.byteCells_length, closeS_size]; omega) hz
      have HSt := Lib.hid fun W (hI : Lib.IsBuilder 58 5 w.heap.size w.heap.size (Lib.byteCells (T ++ List.replicate op.length 41)) W) hz => Try.Builder_String_any w.heap.size w.heap.size (T ++ List.replicate op.length 41) W hI hz
      rw [← hte] at HSt
      have HTE := Lib.hid hte
      clear HN hTl HC HF HB0 HT HR HO hte
      generalize op.length = ol at *
      go_wp2_with (first
        | (go_at_call 20; (with_reducible refine (HRe.out _).mono ?_); rintro e w2 ⟨rfl, hr2⟩; have HR2 := Lib.hid hr2; clear hr2)
        | (go_at_call 19; refine (HWS.out _ (isB_kept HBl.out HR2.out) (by have := HR2.out.size; omega)).mono ?_; rintro e w3 ⟨rfl, hr3⟩; have HR3 := Lib.hid hr3; clear hr3)
        | (go_at_call 22; refine (HSt.out _ (by have := HR3.out.1; rw [bc_close, ← HTE.out] at this; exact this) (by have := HR2.out.size; have := HR3.out.2.2.2; omega)).mono ?_; rintro e w6 ⟨rfl, hb6⟩; have HB6 := Lib.hid hb6; clear hb6))
      go_ret2
      exact ⟨rfl, ((HB.out.trans (HR2.out.mono (by omega))).trans HR3.out.2.1).trans HB6.out⟩
end Go.Proofs.Ytlojecajonhmhaa
