/-
  Contract of query.text: the text of an expression. Conditions: the expression can be read, is fine, and is not larger than the memory; the library's table of powers of ten holds what the library lays.
-/
import Derived.Test.YtlojecajonhmhaaGreatDoorMQueryEvals43
import Derived.Test.YtlojecajonhmhaaGreatDoorMQueryEvals04
import Derived.Test.YtlojecajonhmhaaGreatDoorMQueryEvals00
import Derived.Test.YtlojecajonhmhaaGreatDoorMQueryEvals06
import Derived.Test.YtlojecajonhmhaaGreatDoorShelf
import Derived.Lib.SmallJoins
import Derived.Lib.AppendIntMem
set_option linter.unusedVariables false
set_option linter.unusedSimpArgs false
namespace Go.Proofs.YtlojecajonhmhaaGreatDoor
open Go Go.RowKit Go.Dam Go.Dam.Q
set_option linter.unusedVariables false
theorem el_str : El Tryz.prog 49 9 (.string ⟨#[]⟩) 1 16 := ⟨Tryz.underlying49, by kernel_rfl, rfl, by decide⟩
/-- The library's table of powers of ten. -/
def Tab (w : World) : Prop := Lib.TabIs Tryz.prog w "internal/strconv.uint64pow10" .u64 Lib.pow10Tab
theorem Tab.below {w w' : World} (h : Tab w) (hb : Below w.heap.size w w') : Tab w' := Go.Joins.tab_stays (g := 0) (by kernel_rfl) h hb (Nat.le_refl _)
theorem itoa_any {n : Int} (h : -1048576 ≤ n ∧ n ≤ 1048576) (w : World) (ht : Tab w) : Calls Tryz.prog 26 #[.int .i64 n] w fun e w' => e = .returned (.string ⟨(Lib.itoa n).toArray⟩) ∧ Below w.heap.size w w' :=
  (Tryz.strconv_Itoa n (by omega) (by omega) w ht).mono fun e w' ⟨he, k, os, hw⟩ => ⟨he, by subst hw; exact Lib.below_grow _ w (Nat.le_refl _) k os⟩
theorem strs_at {w : World} {base g n c : Nat} {l : List (List UInt8)} (h : w.ownsRow base 9 1 (.slice (some ⟨g, 0, none⟩) n c) n (l.map strV)) (hl : l.length = n) {i : Nat} (hi : i < n) : w.cell? ⟨g, i, none⟩ = some (.string ⟨(l.getD i []).toArray⟩) := by
  rw [h.cellAt i (by omega), List.getElem?_map, List.getD_eq_getElem?_getD, List.getElem?_eq_getElem (by omega)]; rfl
theorem join_any {w : World} {base go i c : Nat} {l : List (List UInt8)} (h : w.ownsRow base 9 1 (.slice (some ⟨go, 0, none⟩) i c) i (l.map strV)) (hl : l.length = i) (hi : 0 < i) (sep : List UInt8) (hlen : (joinT sep l).length ≤ 140737488355328) (hN : i ≤ 140737488355328) :
    Calls Tryz.prog 27 #[.slice (some ⟨go, 0, none⟩) i c, .string ⟨sep.toArray⟩] w fun e w' => e = .returned (.string ⟨(joinT sep l).toArray⟩) ∧ Below w.heap.size w w' := by
  have e1 : (l.map fun s => (⟨s.toArray⟩ : ByteArray)).map (fun x => x.data.toList) = l := by
    rw [List.map_map]
    conv => rhs; rw [← List.map_id l]
    exact List.map_congr_left fun s _ => by simp
  have e2 : (l.map fun s => (⟨s.toArray⟩ : ByteArray)).length = i := by rw [List.length_map, hl]
  have e3 : (⟨sep.toArray⟩ : ByteArray).data.toList = sep := by simp
  obtain ⟨gg, cap, hv, _, hgl⟩ := h.form hi
  obtain ⟨rfl, rfl⟩ : go = gg ∧ c = cap := by injection hv with a b c; injection a with a; injection a with a; exact ⟨a, c⟩
  have HJ := Tryz.strings_Join go 0 c (l.map fun s => (⟨s.toArray⟩ : ByteArray)) ⟨sep.toArray⟩ w
    (fun j x hj => by
      rw [List.getElem?_map] at hj
      obtain ⟨s, hs, rfl⟩ := Option.map_eq_some_iff.1 hj
      have hjl : j < i := by
        rw [← hl]; exact (List.getElem?_eq_some_iff.1 hs).1
      rw [Nat.zero_add, h.cellAt j (by omega), List.getElem?_map, hs]; rfl)
    hgl (by rw [e2]; exact hN) (by rw [e2]; exact own_cap h) (by rw [e1, e3, ← joinT_join]; exact hlen)
  rw [e1, e2, e3, ← joinT_join] at HJ
  exact HJ
set_option maxRecDepth 100000 in
set_option maxHeartbeats 16000000 in
theorem queryText_any : ∀ (f : Nat) (x : Ex) (v : Value) (w : World) (B : Nat), B ≤ w.heap.size → IsEx w B f v x → faultN f x = 0 → 48 * sizeN f x ≤ 140737488355328 → Tab w →
    Calls Tryz.prog 14 #[v] w fun e w' => e = .returned (.string ⟨(textN f x).toArray⟩) ∧ Below w.heap.size w w'
  | 0, x, v, w, B, hB, h, hf, _, _ => by rw [faultN_0] at hf; omega
  | f + 1, .mk k x0 y0 x1 y1 ww ps, v, w, B, hB, h, hf, hsz, hT => by
    have IH := Lib.hid (queryText_any f)
    obtain ⟨A, c, rfl, hn, hnc, hc, hp⟩ := h.open_
    have HOk := headOk (fine_head hf)
    have HPf := Lib.hid fun i hi => fine_part (i := i) hf hi
    have HPs := Lib.hid fun i hi => (size_part (f := f) (k := k) (x0 := x0) (y0 := y0) (x1 := x1) (y1 := y1) (w := ww) (ps := ps) (i := i) hi)
    have hmany := size_many (f := f) (k := k) (x0 := x0) (y0 := y0) (x1 := x1) (y1 := y1) (w := ww) (ps := ps)
    have HTl := Lib.hid (text_len _ _ hf)
    have HPt := Lib.hid fun i (hi : i < ps.length) => partsT_s (f := f) (k := k) hi
    have HPa := Lib.hid (partsT_all (f := f) (k := k) (ps := ps) rfl)
    have HP := Lib.hid hp
    obtain ⟨sz, hsz1⟩ : ∃ s, s = sizeN (f + 1) (.mk k x0 y0 x1 y1 ww ps) := ⟨_, rfl⟩
    rw [← hsz1] at HPs hmany HTl hsz
    obtain ⟨T, hTx⟩ : ∃ t, t = textN (f + 1) (.mk k x0 y0 x1 y1 ww ps) := ⟨_, rfl⟩
    rw [← hTx] at HTl ⊢
    have HTx := Lib.hid hTx
    obtain ⟨n, hnl⟩ : ∃ n, n = ps.length := ⟨_, rfl⟩
    rw [← hnl] at HP HPf HPs HPt HPa HOk hn hnc hmany ⊢
    have HNl := Lib.hid hnl
    have HTab := Lib.hid fun w' (hb : Below w.heap.size w w') => hT.below hb
    have hb0 := HOk.c0
    have hb1 := HOk.c1
    have hb2 := HOk.c2
    have hb3 := HOk.c3
    have hb4 := HOk.c4
    have hk : (k = 1 ∧ n = 0) ∨ (k = 2 ∧ n = 0) ∨ (k = 3 ∧ 2 ≤ n) ∨ (k = 4 ∧ 2 ≤ n) ∨ (k = 5 ∧ n = 1) := by
      have a := HOk.k1
      have b := HOk.k5
      rcases (show k = 1 ∨ k = 2 ∨ k = 3 ∨ k = 4 ∨ k = 5 by omega) with e | e | e | e | e
      · exact .inl ⟨e, HOk.none (by omega)⟩
      · exact .inr (.inl ⟨e, HOk.none (by omega)⟩)
      · exact .inr (.inr (.inl ⟨e, HOk.two (.inl e)⟩))
      · exact .inr (.inr (.inr (.inl ⟨e, HOk.two (.inr e)⟩)))
      · exact .inr (.inr (.inr (.inr ⟨e, HOk.one e⟩)))
    clear HOk hp h hnl hf hT hsz1 hTx
    unfold exV
    have HB0 := Lib.hid ((Below.refl w.heap.size w).alloc (Nat.le_refl _) (.cells #[.int .i64 k, .int .i64 x0, .int .i64 y0, .int .i64 x1, .int .i64 y1, .int .i64 ww, .slice A n c] 26))
    have HK := Lib.hid (Blk.new w 26 #[.int .i64 k, .int .i64 x0, .int .i64 y0, .int .i64 x1, .int .i64 y1, .int .i64 ww, .slice A n c])
    have k6 := (HK.out.cell 6).trans rfl
    have k0 := (HK.out.cell 0).trans rfl
    go_enter Tryz.func14, Tryz.ntmps14
    go_wp2_with fail
    generalize w.alloc (.cells #[.int .i64 k, .int .i64 x0, .int .i64 y0, .int .i64 x1, .int .i64 y1, .int .i64 ww, .slice A n c] 26) = W0 at *
    have hz0 := HB0.out.size
    have hkl := HK.out.lt
    have HK0 := Lib.hid k0
    have HK6 := Lib.hid fun W (hb : Below W0.heap.size W0 W) => And.intro ((hb.cell (p := ⟨w.heap.size, 0, none⟩) hkl).trans k0) ((hb.cell (p := ⟨w.heap.size, 6, none⟩) hkl).trans k6)
    have HK15 := Lib.hid fun W (hb : Below W0.heap.size W0 W) => HK.out.below hb hkl
    clear k0 k6
    go_loopw [4, 14] (fun lv iv wr => ∃ i : Nat, i ≤ n ∧ iv = .int .i64 i ∧ Hid (wr.ownsRow W0.heap.size 9 1 lv i ((partsT f k ps i).map strV)) ∧ Hid (Below W0.heap.size W0 wr)) (fun _ iv _ => n - (intOf iv).toNat)
    case atStart => exact ⟨0, by omega, rfl, Lib.hid (by rw [partsT_0]; exact World.ownsRow_nil _ _ _ _), Lib.hid (Below.refl _ _)⟩
    case round =>
      obtain ⟨wo, rfl⟩ : ∃ wo : World, wo = wr := ⟨_, rfl⟩
      obtain ⟨i, hi, rfl, HO, HB⟩ := hrel
      have hzo := HB.out.size
      obtain ⟨A2, c2, rfl⟩ := own_shape HO.out
      by_cases hlt : i < n
      · clear hk
        have t1 : decide ((i : Int) < (n : Int)) = true := decide_eq_true (by omega)
        obtain ⟨b, o, rfl, hb, hpa⟩ := HP.out (by omega)
        obtain ⟨v', hat, hex⟩ := hpa i hlt
        obtain ⟨pk, px0, py0, px1, py1, pw, PA, pn, pc, rfl, c0, c1, c2', c3, c4, c5, c6⟩ := (hat.below ((HB0.out.mono hB).trans (HB.out.mono (by omega))) hb)
        have HPti := Lib.hid (HPt.out i hlt)
        have hpf := HPf.out i hlt
        have hps := HPs.out i hlt
        have hkd := hex.kind
        have htl := text_len _ _ hpf
        have HIH := Lib.hid fun W (hbw : Below w.heap.size w W) => IH.out (ps.getD i noEx) _ W B (Nat.le_trans hB hbw.size) (hex.below (hbw.mono hB)) hpf (by omega) (HTab.out W hbw)
        obtain ⟨TT, hTT⟩ : ∃ t, t = textN f (ps.getD i noEx) := ⟨_, rfl⟩
        rw [← hTT] at HIH htl HPti
        have hR : partT k (ps.getD i noEx) TT = wrapT (wrapped k pk) TT := by unfold partT; rw [hkd]
        rw [hR] at HPti
        have HBw : Hid (Below w.heap.size w wo) := Lib.hid (HB0.out.trans (HB.out.mono hz0))
        have HQ := Lib.hid fun W (hb : Below wo.heap.size wo W) => queryPart_any k pk px0 py0 px1 py1 pw PA pn pc w.heap.size TT W (HK6.out W (HB.out.trans (hb.mono hzo))).1 (by omega) (fun W' hb' => HIH.out W' ((HBw.out.trans (hb.mono HBw.out.size)).trans (hb'.mono (by have := hb.size; have := HBw.out.size; omega))))
        generalize wrapT (wrapped k pk) TT = R at *
        unfold exV at HQ
        have i1 : (i : Int) < (n : Int) := by omega
        have w1 : IntKind.i64.wrap ((i : Int) + 1) = (i : Int) + 1 := by rw [IntKind.wrap_i64]; omega
        have HBa := Lib.hid fun o => (Below.refl wo.heap.size wo).alloc (Nat.le_refl _) o
        clear hpa hat hex hkd htl HIH hTT hR hpf hps
        go_wp2_with (first
          | (go_at_call 24; refine (HQ.out _ (HBa.out _)).mono ?_; rintro e w2 ⟨rfl, hb2⟩; have HB2 := Lib.hid ((HBa.out _).trans (hb2.mono (by simp))); have HO2 := Lib.hid (own_size HO.out HB2.out); have hz2 := HB2.out.size; clear hb2)
          | (at_builtin; refine wpList_pushD el_str rfl _ _ rfl W0.heap.size _ i _ (HO2.out.alloc _) rfl w2.heap.size 1 _ rfl (new_cell rfl) rfl (by omega) (by omega) (by simp; omega) ?_; intro v3 w3 hown3 hg3 hl3; obtain ⟨A3, c3', rfl⟩ := own_shape hown3))
        go_roundw
        case rel => exact ⟨i + 1, by omega, by go_num, Lib.hid (by rw [HPti.out, List.map_append]; exact hown3), Lib.hid (below_push ((HB.out.trans (HB2.out.mono hzo)).alloc (by omega) _) (HO2.out.alloc _) (Nat.le_refl _) (by simp; omega) hg3)⟩
        case measure => simp [intOf]; omega
      · obtain rfl : i = n := by omega
        have t1 : decide ((i : Int) < (i : Int)) = false := decide_eq_false (by omega)
        have HBw : Hid (Below w.heap.size w wo) := Lib.hid (HB0.out.trans (HB.out.mono hz0))
        have HKw := Lib.hid (HK15.out _ HB.out)
        have q0 := (HKw.out.cell 0).trans rfl
        rcases hk with ⟨rfl, rfl⟩ | ⟨rfl, rfl⟩ | ⟨rfl, hn2⟩ | ⟨rfl, hn2⟩ | ⟨rfl, rfl⟩
        · have HX : Hid (T = inT [x0, y0, x1, y1] 4) := Lib.hid (by rw [HTx.out, inT_text])
          have hxs : ∀ j, j < 4 → -1048576 ≤ ([x0, y0, x1, y1] : List Int).getD j 0 ∧ ([x0, y0, x1, y1] : List Int).getD j 0 ≤ 1048576 := fun j hj => by
            match j, hj with
            | 0, _ => exact hb0
            | 1, _ => exact hb1
            | 2, _ => exact hb2
            | 3, _ => exact hb3
          have HXs := Lib.hid hxs
          have HIl := Lib.hid (inT_len hxs)
          have q1 := (HKw.out.cell 1).trans rfl
          have q2 := (HKw.out.cell 2).trans rfl
          have q3 := (HKw.out.cell 3).trans rfl
          have q4 := (HKw.out.cell 4).trans rfl
          have HB3 := Lib.hid (HBw.out.alloc HBw.out.size (.cells #[.int .i64 x0, .int .i64 y0, .int .i64 x1, .int .i64 y1] 3))
          have HL := Lib.hid (Blk.new wo 3 #[.int .i64 x0, .int .i64 y0, .int .i64 x1, .int .i64 y1])
          clear hxs
          rw [show ((0 : Nat) : Int) = 0 from rfl]
          go_wp2_with fail
          generalize wo.alloc (.cells #[.int .i64 x0, .int .i64 y0, .int .i64 x1, .int .i64 y1] 3) = W1 at *
          go_loopw [7, 43] (fun sv jv wq => ∃ (j : Nat) (st : List UInt8), j ≤ 4 ∧ jv = .int .i64 j ∧ sv = .string ⟨st.toArray⟩ ∧ Hid (st = inT [x0, y0, x1, y1] j) ∧ Hid (Below W1.heap.size W1 wq)) (fun _ jv _ => 4 - (intOf jv).toNat)
          case atStart => exact ⟨0, _, by omega, rfl, rfl, Lib.hid (inT_0 _).symm, Lib.hid (Below.refl _ _)⟩
          case round =>
            obtain ⟨wi, rfl⟩ : ∃ wi : World, wi = wr := ⟨_, rfl⟩
            obtain ⟨j, st, hj, rfl, rfl, HS, HBi⟩ := hrel
            have hzi := HBi.out.size
            by_cases hlt2 : j < 4
            · have t2 : decide ((j : Int) < 4) = true := decide_eq_true (by omega)
              have hxl := HL.out.lt
              have hlj : wi.cell? ⟨wo.heap.size, j, none⟩ = some (.int .i64 (([x0, y0, x1, y1] : List Int).getD j 0)) := by
                rw [HBi.out.cell (p := ⟨wo.heap.size, j, none⟩) hxl, HL.out.cell]
                match j, hlt2 with
                | 0, _ => rfl
                | 1, _ => rfl
                | 2, _ => rfl
                | 3, _ => rfl
              have hsl := HIl.out j (by omega)
              have hil := itoa_len (HXs.out j hlt2).1 (HXs.out j hlt2).2
              have HIs := Lib.hid (inT_s [x0, y0, x1, y1] j)
              have HBx : Hid (Below w.heap.size w wi) := Lib.hid (HB3.out.trans (HBi.out.mono HB3.out.size))
              have HIt := Lib.hid (itoa_any (HXs.out j hlt2) wi (HTab.out wi HBx.out))
              rw [← HS.out] at hsl HIs
              generalize ([x0, y0, x1, y1] : List Int).getD j 0 = z at *
              obtain ⟨S, hS⟩ : ∃ S, S = Lib.itoa z := ⟨_, rfl⟩
              rw [← hS] at hil HIs HIt
              obtain ⟨S1, hS1⟩ : ∃ S1, S1 = 32 :: S := ⟨_, rfl⟩
              rw [← hS1] at HIs
              have ha1 := fun W => add_str (P := Tryz.prog) [32] S (c := S1) (by rw [hS1]; rfl) (by simp; omega) W
              obtain ⟨S2, hS2⟩ : ∃ S2, S2 = st ++ S1 := ⟨_, rfl⟩
              have ha2 := fun W => add_str (P := Tryz.prog) st S1 (c := S2) hS2 (by rw [hS1]; simp; omega) W
              rw [← hS2] at HIs
              have w1 : IntKind.i64.wrap ((j : Int) + 1) = (j : Int) + 1 := by rw [IntKind.wrap_i64]; omega
              have j1 : (j : Int) < 4 := by omega
              clear hS hS1 hS2 hsl hil
              go_wp2_with (go_at_call 26; refine (HIt.out).mono ?_; rintro e w3 ⟨rfl, hb3⟩)
              go_roundw
              case rel => exact ⟨j + 1, S2, by omega, by go_num, rfl, Lib.hid HIs.out.symm, Lib.hid (HBi.out.trans (hb3.mono hzi))⟩
              case measure => simp [intOf]; omega
            · obtain rfl : j = 4 := by omega
              go_wp2_with fail
              go_ret
              exact ⟨by rw [HX.out, ← HS.out]; rfl, HB3.out.trans (HBi.out.mono HB3.out.size)⟩
        · have q5 := (HKw.out.cell 5).trans rfl
          have HIt := Lib.hid (itoa_any hb4 wo (HTab.out wo HBw.out))
          have hil := itoa_len hb4.1 hb4.2
          have HX : Hid (T = [119, 32] ++ Lib.itoa ww) := Lib.hid (by rw [HTx.out, textN_heavy]; rfl)
          obtain ⟨S, hS⟩ : ∃ S, S = Lib.itoa ww := ⟨_, rfl⟩
          rw [← hS] at hil HX HIt
          have ha1 := fun W => add_str (P := Tryz.prog) [119, 32] S (c := T) HX.out (by simp; omega) W
          clear hS hil
          go_wp2_with (go_at_call 26; refine (HIt.out).mono ?_; rintro e w3 ⟨rfl, hb3⟩)
          go_ret
          exact ⟨rfl, HBw.out.trans (hb3.mono HBw.out.size)⟩
        · obtain ⟨go, capo, hv, _, hgl⟩ := HO.out.form (by omega)
          obtain rfl : A2 = some ⟨go, 0, none⟩ := by injection hv
          have hpl : (partsT f 3 ps i).length = i := by have := HO.out.1; simpa using this
          have hT2 : joinT [32, 38, 32] (partsT f 3 ps i) = T := by rw [HPa.out, HTx.out, textN_list (by decide)]; rfl
          have HJ := Lib.hid (join_any HO.out hpl (by omega) [32, 38, 32] (by rw [hT2]; have := HTl.out; omega) (by omega))
          rw [hT2] at HJ
          clear hv hT2 hpl
          go_wp2_with (go_at_call 27; refine (HJ.out).mono ?_; rintro e w2 ⟨rfl, hb2⟩)
          go_ret
          exact ⟨rfl, HBw.out.trans (hb2.mono HBw.out.size)⟩
        · obtain ⟨go, capo, hv, _, hgl⟩ := HO.out.form (by omega)
          obtain rfl : A2 = some ⟨go, 0, none⟩ := by injection hv
          have hpl : (partsT f 4 ps i).length = i := by have := HO.out.1; simpa using this
          have hT2 : joinT [32, 124, 32] (partsT f 4 ps i) = T := by rw [HPa.out, HTx.out, textN_list (by decide)]; rfl
          have HJ := Lib.hid (join_any HO.out hpl (by omega) [32, 124, 32] (by rw [hT2]; have := HTl.out; omega) (by omega))
          rw [hT2] at HJ
          clear hv hT2 hpl
          go_wp2_with (go_at_call 27; refine (HJ.out).mono ?_; rintro e w2 ⟨rfl, hb2⟩)
          go_ret
          exact ⟨rfl, HBw.out.trans (hb2.mono HBw.out.size)⟩
        · obtain ⟨go, capo, hv, _, hgl⟩ := HO.out.form (by omega)
          obtain rfl : A2 = some ⟨go, 0, none⟩ := by injection hv
          have hpl : (partsT f 5 ps 1).length = 1 := by have := HO.out.1; simpa using this
          have r0 := strs_at HO.out hpl (i := 0) (by omega)
          have HX : Hid (T = [33] ++ (partsT f 5 ps 1).getD 0 []) := Lib.hid (by rw [HPa.out, HTx.out, textN_not5]; rfl)
          have hl2 : ((partsT f 5 ps 1).getD 0 []).length ≤ T.length := by rw [HX.out]; simp
          have := HTl.out
          generalize (partsT f 5 ps 1).getD 0 [] = R at *
          have ha1 := fun W => add_str (P := Tryz.prog) [33] R (c := T) HX.out (by simp; omega) W
          clear hv hpl hl2 this
          go_wp2_with fail
          go_ret
          exact ⟨rfl, HBw.out⟩
end Go.Proofs.YtlojecajonhmhaaGreatDoor
