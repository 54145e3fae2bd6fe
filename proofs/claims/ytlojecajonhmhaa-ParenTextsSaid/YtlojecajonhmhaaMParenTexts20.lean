/-
  Contract of the reference's ParenText: the text of a tree, told from the end, and looked at by its own tree. Conditions: the argument is a list of ints.
-/
import Derived.Test.YtlojecajonhmhaaMParenTexts13
import Derived.Test.YtlojecajonhmhaaMParenTexts14
import Derived.Test.YtlojecajonhmhaaMParenTexts19
import Derived.Deep.CutRange
set_option linter.unusedVariables false
set_option linter.unusedSimpArgs false
namespace Go.Dam
open Go Go.RowKit
set_option linter.unusedVariables false
theorem add_strT {P : Program} (a b : List UInt8) {c : List UInt8} (h : c = a ++ b) (hl : a.length + b.length ≤ 9223372036854775807) (W : World) : (Op.stringOp .add ⟨a.toArray⟩ ⟨b.toArray⟩).run P W = .ok (.string ⟨c.toArray⟩) W := by
  subst h
  rw [run_string_add_sum W _ _ (by show a.toArray.size + b.toArray.size ≤ _; simpa using hl)]
  congr 2
/-- A text as a value. -/
def strV (l : List UInt8) : Value := .string ⟨l.toArray⟩
/-- What each node holds, as values. -/
def ownV (own : Nat → List UInt8) (n : Nat) : Array Value := ((List.range n).map fun j => Value.string ⟨(own j).toArray⟩).toArray
theorem ownV_size (own : Nat → List UInt8) (n : Nat) : (ownV own n).size = n := by simp [ownV]
theorem ownV_at (own : Nat → List UInt8) {n j : Nat} (h : j < n) : (ownV own n)[j]? = some (.string ⟨(own j).toArray⟩) := by simp [ownV, h]
theorem ownV_none (n : Nat) : ownV (fun _ => []) n = (List.replicate n (Value.string ⟨#[]⟩)).toArray := by
  unfold ownV; congr 1
  refine List.ext_getElem (by simp) fun i h1 h2 => by simp
theorem ownV_set (own : Nat → List UInt8) {n p : Nat} (h : p < n) (v : List UInt8) : (ownV own n).setIfInBounds p (.string ⟨v.toArray⟩) = ownV (updL own p v) n := by
  refine Array.ext_getElem? fun i => ?_
  rw [Array.getElem?_setIfInBounds]
  rcases Nat.lt_or_ge i n with hi | hi
  · rw [ownV_at _ hi, ownV_at _ hi, ownV_size]
    split
    · rename_i e; subst e; first | rw [updL_same] | (rw [if_pos h, updL_same])
    · rename_i e; rw [updL_ne (fun x => e x.symm)]
  · rw [Array.getElem?_eq_none (by rw [ownV_size]; exact hi), Array.getElem?_eq_none (by rw [ownV_size]; exact hi)]
    split
    · omega
    · rfl
attribute [irreducible] ownV
/-- How far it is told from the end. -/
structure FromEnd (ps : List Int) (d : Nat) (own : Nat → List UInt8) (out : List UInt8) : Prop where
  le : d ≤ ps.length
  ref : refL (ps.drop d) d = some (own, out)
theorem FromEnd.start (ps : List Int) : FromEnd ps ps.length (fun _ => []) [] := ⟨Nat.le_refl _, by rw [List.drop_length]; rfl⟩
theorem sumL_ge {own : Nat → List UInt8} {a : Nat} : ∀ i, a < i → (own a).length ≤ sumL own i
  | 0, h => by omega
  | i + 1, h => by
    rw [sumL]
    rcases Nat.lt_or_ge a i with c | c
    · have := sumL_ge (own := own) i c; omega
    · rw [show a = i from by omega]; omega
theorem FromEnd.len {ps : List Int} {d : Nat} {own : Nat → List UInt8} {out : List UInt8} (h : FromEnd ps d own out) : out.length ≤ 2 * ps.length ∧ ∀ a, a < d → (own a).length ≤ 2 * ps.length := by
  have h1 := (refL_ok _ _ _ _ h.ref).2.2
  rw [List.length_drop] at h1
  exact ⟨by omega, fun a ha => by have := sumL_ge (own := own) d ha; omega⟩
theorem FromEnd.next {ps : List Int} {d : Nat} {own : Nat → List UInt8} {out : List UInt8} (h : FromEnd ps (d + 1) own out) : refL (ps.drop d) d = if ps.getD d 0 < -1 ∨ (d : Int) ≤ ps.getD d 0 then none else if ps.getD d 0 < 0 then some (own, nodeL (own d) ++ out) else some (updL own (ps.getD d 0).toNat (nodeL (own d) ++ own (ps.getD d 0).toNat), out) := by
  have hd : d < ps.length := h.le
  rw [List.drop_eq_getElem_cons hd, refL_next h.ref, List.getD_eq_getElem?_getD, List.getElem?_eq_getElem hd]; rfl
theorem FromEnd.bad {ps : List Int} {d : Nat} {own : Nat → List UInt8} {out : List UInt8} (h : FromEnd ps (d + 1) own out) (hb : ps.getD d 0 < -1 ∨ (d : Int) ≤ ps.getD d 0) : runL ps 0 [] = none := by
  have := h.next
  rw [if_pos hb] at this
  exact run_none (refL_refuse ps 0 d (by rw [Nat.zero_add]; exact this))
theorem FromEnd.root {ps : List Int} {d : Nat} {own : Nat → List UInt8} {out : List UInt8} (h : FromEnd ps (d + 1) own out) (hb : ¬ (ps.getD d 0 < -1 ∨ (d : Int) ≤ ps.getD d 0)) (h0 : ps.getD d 0 < 0) : FromEnd ps d own (nodeL (own d) ++ out) := by
  have := h.next
  rw [if_neg hb, if_pos h0] at this
  exact ⟨by have := h.le; omega, this⟩
theorem FromEnd.under {ps : List Int} {d : Nat} {own : Nat → List UInt8} {out : List UInt8} (h : FromEnd ps (d + 1) own out) (hb : ¬ (ps.getD d 0 < -1 ∨ (d : Int) ≤ ps.getD d 0)) (h0 : ¬ ps.getD d 0 < 0) : FromEnd ps d (updL own (ps.getD d 0).toNat (nodeL (own d) ++ own (ps.getD d 0).toNat)) out := by
  have := h.next
  rw [if_neg hb, if_neg h0] at this
  exact ⟨by have := h.le; omega, this⟩
/-- What the comparison decides. -/
theorem FromEnd.last {ps : List Int} {own : Nat → List UInt8} {out : List UInt8} (h : FromEnd ps 0 own out) (hn : ps.length ≤ 200) :
    ∃ l, TreeAns ⟨out.toArray⟩ l 0 ∧ l.length = ps.length ∧ (l = ps → runL ps 0 [] = some out) ∧ (l ≠ ps → runL ps 0 [] = none) := by
  have h1 := h.ref
  rw [List.drop_zero] at h1
  obtain ⟨hb, _, hl⟩ := refL_ok _ _ _ _ h1
  have hl : out.length = 2 * ps.length := hl
  obtain ⟨l, hT⟩ := TreeR.ex (fL out) out.length
  have hs : (⟨out.toArray⟩ : ByteArray).size = out.length := by simp [ByteArray.size]
  refine ⟨l, .inl ⟨rfl, by rw [hs]; omega, by rw [hs, fL_chr]; exact hb, by rw [hs, fL_chr]; exact hT⟩, ?_, fun e => ref_same h1 (e ▸ hT), fun e => ref_other h1 hT e⟩
  have d := dep_opn (fL out) out.length
  rw [hb.2.2] at d
  rw [hT.1]; omega
end Go.Dam
namespace Go.Proofs.Ytlojecajonhmhaa
open Go Go.RowKit Go.Dam
set_option linter.unusedVariables false
theorem el_strT : El Try.prog 67 9 (.string ⟨#[]⟩) 1 16 := ⟨Try.underlying67, by kernel_rfl, rfl, by decide⟩
set_option maxRecDepth 100000 in
set_option maxHeartbeats 8000000 in
theorem refParenText_any (v : Value) (ps : List Int) (t : List UInt8) (cc : Int) (w : World) (B : Nat) (hB : B ≤ w.heap.size) (h : IsInts .i64 w B v ps) (hR : TextAns ps t cc) :
    Calls Try.prog 11 #[v] w fun e w' => e = .returned (.tuple #[.string ⟨t.toArray⟩, .int .i64 cc]) ∧ Below w.heap.size w w' := by
  obtain ⟨A, c, rfl, hc, hm, hn, hr, hw⟩ := h
  by_cases hbig : 200 < ps.length
  · obtain ⟨rfl, rfl⟩ : cc = 1 ∧ t = [] := by
      rcases hR with ⟨_, h⟩ | ⟨h, _⟩ | ⟨h, _⟩
      · exact h
      · omega
      · omega
    have t0 : decide ((200 : Int) < (ps.length : Int)) = true := decide_eq_true (by omega)
    clear hR hr hw
    go_enter Try.func11, Try.ntmps11
    go_wp2
    go_ret2
    exact ⟨rfl, Below.refl _ _⟩
  have t0 : decide ((200 : Int) < (ps.length : Int)) = false := decide_eq_false (by omega)
  have HR : Hid ((runL ps 0 [] = none ∧ cc = 4 ∧ t = []) ∨ (runL ps 0 [] = some t ∧ cc = 0)) := Lib.hid (by
    rcases hR with ⟨h, _⟩ | ⟨_, h⟩ | ⟨_, h⟩
    · omega
    · exact .inl h
    · exact .inr h)
  have HC : Hid (0 < ps.length → ∃ b off, A = some ⟨b, off, none⟩ ∧ b < B ∧ ∀ j, j < ps.length → w.cell? ⟨b, off + j, none⟩ = some (.int .i64 (ps.getD j 0))) := Lib.hid fun h0 => ints_cells hr h0
  clear hR hr hw
  have hn2 : ps.length ≤ 200 := by omega
  clear hbig
  obtain ⟨W1, hW1⟩ : ∃ W1, W1 = w.alloc (.cells (Array.replicate ps.length (Value.string ⟨#[]⟩)) 9) := ⟨_, rfl⟩
  have HBl : Hid (Blk W1 w.heap.size 9 (ownV (fun _ => []) ps.length)) := Lib.hid (by rw [hW1, ownV_none, List.toArray_replicate]; exact Blk.new w _ _)
  have HB1 : Hid (Below w.heap.size w W1) := Lib.hid (by rw [hW1]; exact (Below.refl _ _).alloc (Nat.le_refl _) _)
  have hmk := fun w' => run_make1 el_strT rfl (ps.length : Int) ps.length rfl (by omega) (by omega) w'
  go_enter Try.func11, Try.ntmps11
  go_wp2_with fail
  clear hmk
  try simp only [List.toArray_replicate]
  rw [← hW1]
  have hsz : w.heap.size < W1.heap.size := by rw [hW1]; simp
  obtain ⟨g, hg⟩ : ∃ g, g = w.heap.size := ⟨_, rfl⟩
  have HG := Lib.hid hg
  rw [← hg] at HBl hsz ⊢
  clear hW1 hg
  go_loopw [5, 6] (fun sv iv wr => ∃ (d : Nat) (own : Nat → List UInt8) (out : List UInt8), iv = .int .i64 ((d : Int) - 1) ∧ sv = strV out ∧ FromEnd ps d own out ∧ Blk wr g 9 (ownV own ps.length) ∧ Below w.heap.size w wr) (fun _ iv _ => (intOf iv + 1).toNat)
  case atStart => exact ⟨ps.length, fun _ => [], [], rfl, rfl, FromEnd.start ps, HBl.out, HB1.out⟩
  case round =>
    obtain ⟨d, own, out, rfl, rfl, hfe, hbl, hbel⟩ := hrel
    have hle := hfe.le
    have HF := Lib.hid hfe
    have HK := Lib.hid hbl
    have HB := Lib.hid hbel
    clear hfe hbl hbel
    unfold strV
    cases d with
    | zero =>
      obtain ⟨wo, rfl⟩ : ∃ wo : World, wo = wr := ⟨_, rfl⟩
      obtain ⟨l, hTA, hll, hsame, hother⟩ := HF.out.last hn2
      have HT := Lib.hid fun W => refParenTree_any ⟨out.toArray⟩ l 0 W (by have := (HF.out.len).1; show out.toArray.size ≤ _; simp; omega) hTA
      have HSm := Lib.hid hsame
      have HOt := Lib.hid hother
      clear hTA hsame hother
      have d4 : decide ((0 : Int) ≤ ((0 : Nat) : Int) - 1) = false := by decide
      go_wp2_with (go_at_call 23; refine (HT.out _).mono ?_; rintro e w2 ⟨u2, rfl, hi2, hb2⟩; have HI2 := Lib.hid hi2; have HB2 := Lib.hid hb2; obtain ⟨A2, c2, rfl, hc2, hm2, hr2⟩ := hi2.open_ hll; have HR2 := Lib.hid hr2; clear hi2 hb2 hr2)
      clear HT HF HK
      go_loopw [63] (fun iv wr => ∃ i : Nat, i ≤ ps.length ∧ iv = .int .i64 i ∧ (∀ j, j < i → l.getD j 0 = ps.getD j 0) ∧ Drawn w2 wr) (fun iv _ => ps.length - (intOf iv).toNat)
      case atStart => exact ⟨0, by omega, rfl, fun j hj => absurd hj (by omega), Drawn.refl _⟩
      case round =>
        obtain ⟨i, hi, rfl, heq, hdr⟩ := hrel
        have HEq := Lib.hid heq
        clear heq
        by_cases hlt : i < ps.length
        · obtain ⟨b, off, rfl, hb, hcells⟩ := HC.out (by omega)
          obtain ⟨b2, off2, rfl, hb2, hcells2⟩ := ints_cells HR2.out (by omega)
          have k0 : wr.cell? ⟨b, off + i, none⟩ = some (.int .i64 (ps.getD i 0)) := (hdr.cell ⟨b, off + i, none⟩).trans (((HB.out.trans (HB2.out.mono (HB.out.size))).cell (p := ⟨b, off + i, none⟩) (show b < w.heap.size by omega)).trans (hcells i hlt))
          have k1 := (hdr.cell ⟨b2, off2 + i, none⟩).trans (hcells2 i (by omega))
          have HD := Lib.hid hdr
          clear hcells hcells2 hdr
          by_cases hsm : l.getD i 0 = ps.getD i 0
          · have HE2 : Hid (∀ j, j < i + 1 → l.getD j 0 = ps.getD j 0) := Lib.hid fun j hj => by
              rcases Nat.lt_or_ge j i with h | h
              · exact HEq.out j h
              · rw [show j = i from by omega]; exact hsm
            rw [hsm] at k1
            generalize ps.getD i 0 = x at *
            have ts : (x != x) = false := by simp
            clear hsm
            go_wp2_with fail
            go_quiet (fail)
            go_wp2
            go_roundw
            case rel => exact ⟨i + 1, by omega, by go_num, HE2.out, HD.out.drewN _⟩
            case measure => simp [intOf]; omega
          · have ts : (l.getD i 0 != ps.getD i 0) = true := by simpa using hsm
            have hne : l ≠ ps := fun e => hsm (by rw [e])
            have HN := HOt.out hne
            obtain ⟨rfl, rfl⟩ : cc = 4 ∧ t = [] := by
              rcases HR.out with ⟨_, h1⟩ | ⟨h1, _⟩
              · exact h1
              · rw [HN] at h1; cases h1
            clear HN hne hsm
            generalize ps.getD i 0 = x at *
            generalize l.getD i 0 = y at *
            go_wp2_with fail
            go_quiet (fail)
            go_wp2
            go_ret2
            exact ⟨rfl, (HB.out.trans (HB2.out.mono (HB.out.size))).trans ((HD.out.drewN _).below _)⟩
        · obtain rfl : i = ps.length := by omega
          have hlp : l = ps := by
            refine List.ext_getElem hll fun j h1 h2 => ?_
            have := HEq.out j h2
            rw [List.getD_eq_getElem?_getD, List.getElem?_eq_getElem h1, List.getD_eq_getElem?_getD, List.getElem?_eq_getElem h2] at this
            simpa using this
          have HN := HSm.out hlp
          obtain ⟨rfl, rfl⟩ : cc = 0 ∧ t = out := by
            rcases HR.out with ⟨h1, _⟩ | ⟨h1, h2⟩
            · rw [HN] at h1; cases h1
            · rw [HN] at h1; cases h1; exact ⟨h2, rfl⟩
          have HD := Lib.hid hdr
          clear HN hlp hdr
          go_wp2
          go_ret2
          exact ⟨rfl, (HB.out.trans (HB2.out.mono (HB.out.size))).trans (HD.out.below _)⟩
    | succ d =>
      have hd : d < ps.length := hle
      obtain ⟨b, off, rfl, hb, hcells⟩ := HC.out (by omega)
      have k0 : wr.cell? ⟨b, off + d, none⟩ = some (.int .i64 (ps.getD d 0)) := (HB.out.cell (p := ⟨b, off + d, none⟩) (show b < w.heap.size by omega)).trans (hcells d hd)
      have e1 : ((d + 1 : Nat) : Int) - 1 = (d : Int) := by omega
      rw [e1]
      clear hcells
      by_cases hbad : ps.getD d 0 < -1 ∨ (d : Int) ≤ ps.getD d 0
      · have HN := HF.out.bad hbad
        obtain ⟨rfl, rfl⟩ : cc = 4 ∧ t = [] := by
          rcases HR.out with ⟨_, h1⟩ | ⟨h1, _⟩
          · exact h1
          · rw [HN] at h1; cases h1
        clear HN
        generalize ps.getD d 0 = p at *
        by_cases hb1 : p < -1
        · have d1 : decide (p < -1) = true := decide_eq_true hb1
          clear hbad hb1
          go_wp2_with fail
          go_ret2
          exact ⟨rfl, HB.out⟩
        · have d1 : decide (p < -1) = false := decide_eq_false hb1
          have d2 : decide ((d : Int) ≤ p) = true := decide_eq_true (by omega)
          clear hbad hb1
          go_wp2_with fail
          go_ret2
          exact ⟨rfl, HB.out⟩
      · have hge : -1 ≤ ps.getD d 0 := by omega
        have hlt : ps.getD d 0 < (d : Int) := by omega
        have d1 : decide (ps.getD d 0 < -1) = false := decide_eq_false (by omega)
        have d2 : decide ((d : Int) ≤ ps.getD d 0) = false := decide_eq_false (by omega)
        obtain ⟨l1, l2⟩ := HF.out.len
        have l3 := l2 d (by omega)
        have k1 : wr.cell? ⟨g, d, none⟩ = some (.string ⟨(own d).toArray⟩) := by rw [HK.out.cell, ownV_at own hd]
        obtain ⟨Q1, hQ1⟩ : ∃ Q1, Q1 = 40 :: own d := ⟨_, rfl⟩
        obtain ⟨Q2, hQ2⟩ : ∃ Q2, Q2 = nodeL (own d) := ⟨_, rfl⟩
        have ha1 := fun W => add_strT (P := Try.prog) [40] (own d) (c := Q1) hQ1 (by simp; omega) W
        have ha2 := fun W => add_strT (P := Try.prog) Q1 [41] (c := Q2) (by rw [hQ2, hQ1]; rfl) (by rw [hQ1]; simp; omega) W
        have hQl : Q2.length ≤ 402 := by rw [hQ2, nodeL_len]; omega
        by_cases h0 : ps.getD d 0 < 0
        · have HNx := Lib.hid (HF.out.root hbad h0)
          rw [← hQ2] at HNx
          have d3 : decide (ps.getD d 0 < 0) = true := decide_eq_true h0
          obtain ⟨Q3, hQ3⟩ : ∃ Q3, Q3 = Q2 ++ out := ⟨_, rfl⟩
          have ha3 := fun W => add_strT (P := Try.prog) Q2 out (c := Q3) hQ3 (by omega) W
          rw [← hQ3] at HNx
          generalize ps.getD d 0 = p at *
          generalize own d = od at *
          clear hQ1 hQ2 hQ3 hbad h0 hge hlt l1 l2 l3 hQl HC HR HF HB1 HBl
          go_wp2_with fail
          go_roundw
          case rel => exact ⟨d, own, Q3, by go_num, rfl, HNx.out, HK.out, HB.out⟩
          case measure => simp [intOf]
        · have hq := FromEnd.under HF.out hbad h0
          obtain ⟨q, hpq⟩ : ∃ q : Nat, ps.getD d 0 = (q : Int) := ⟨(ps.getD d 0).toNat, by omega⟩
          rw [hpq, Int.toNat_natCast, ← hQ2] at hq
          have hqd : q < d := by omega
          have hqn : q < ps.length := by omega
          have l4 := l2 q (by omega)
          have k2 : wr.cell? ⟨g, q, none⟩ = some (.string ⟨(own q).toArray⟩) := by rw [HK.out.cell, ownV_at own hqn]
          have f2 : wr.frozen? ⟨g, q, none⟩ = false := HK.out.frozen q
          obtain ⟨Q3, hQ3⟩ : ∃ Q3, Q3 = Q2 ++ own q := ⟨_, rfl⟩
          have ha3 := fun W => add_strT (P := Try.prog) Q2 (own q) (c := Q3) hQ3 (by omega) W
          rw [← hQ3] at hq
          have HNx := Lib.hid hq
          have HS : Hid (Blk (wr.setCell ⟨g, q, none⟩ (.string ⟨Q3.toArray⟩)) g 9 (ownV (updL own q Q3) ps.length)) := Lib.hid (by rw [← ownV_set own hqn]; exact HK.out.set_ q _)
          have HBS : Hid (Below w.heap.size w (wr.setCell ⟨g, q, none⟩ (.string ⟨Q3.toArray⟩))) := Lib.hid (HB.out.setCell (p := ⟨g, q, none⟩) (by rw [HG.out]; exact Nat.le_refl _) _)
          rw [hpq] at k0 d1 d2
          have d3 : decide ((q : Int) < 0) = false := decide_eq_false (by omega)
          generalize own q = oq at *
          generalize own d = od at *
          clear hQ1 hQ2 hQ3 hbad h0 hge hlt l1 l2 l3 l4 hQl hq hpq HC HR HF HB1 HBl
          go_wp2_with fail
          go_roundw
          case rel => exact ⟨d, updL own q Q3, out, by go_num, rfl, HNx.out, HS.out, HBS.out⟩
          case measure => simp [intOf]
end Go.Proofs.Ytlojecajonhmhaa
