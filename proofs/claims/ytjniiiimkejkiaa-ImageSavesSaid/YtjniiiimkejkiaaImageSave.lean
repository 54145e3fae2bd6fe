/-
  Contract of image.Save: the image of points, or the code of what is refused. Conditions: the points can be read as data.
-/
import Derived.Test.YtjniiiimkejkiaaImagePut
import Derived.Test.YtjniiiimkejkiaaLoadLaw
import Derived.Test.YtjniiiimkejkiaaGridCheck
import Derived.Test.YtjniiiimkejkiaaImageSum
import Derived.Test.YtjniiiimkejkiaaSameBytes
import Derived.Deep.RegionHeld3
import Derived.Deep.CutRange
import Derived.Lib.SlBytesConst
namespace Go.Dam
open Go
/-- What Save answers. -/
def savedL (n : Nat) (l : List Int) : List Int := if ptCode n l = 0 then saveL n l else []
theorem savedL_0 {n : Nat} {l : List Int} (h : ptCode n l = 0) : savedL n l = saveL n l := by unfold savedL; rw [if_pos h]
theorem savedL_no {n : Nat} {l : List Int} (h : ptCode n l ≠ 0) : savedL n l = [] := by unfold savedL; rw [if_neg h]
attribute [irreducible] savedL
/-- Coordinates that were let pass. -/
theorem pt_coords {n : Nat} {l : List Int} (h : ptCode n l = 0) : n ≤ 150 ∧ ∀ j, j < n * 3 → -1048576 ≤ l.getD j 0 ∧ l.getD j 0 ≤ 1048576 := by
  obtain ⟨h1, h2⟩ := ptCode_ok h
  refine ⟨h1, fun j hj => ?_⟩
  obtain ⟨a, b, c⟩ := badPt_fine (h2 (j / 3) (by omega))
  have hd := Nat.div_add_mod j 3
  rcases (show j % 3 = 0 ∨ j % 3 = 1 ∨ j % 3 = 2 by omega) with e | e | e
  · rw [show j = j / 3 * 3 from by omega]; exact a
  · rw [show j = j / 3 * 3 + 1 from by omega]; exact b
  · rw [show j = j / 3 * 3 + 2 from by omega]; exact c
end Go.Dam
namespace Go.Proofs.Ytjniiiimkejkiaa
open Go Go.RowKit Go.Dam
set_option linter.unusedVariables false
/-- While numbers are put behind each other: the row as it is, and what is kept. -/
def Putting (W : World) (b : Value) (K c : Nat) (m : List Int) (w : World) (v : Value) : Prop := OwnB w K v m ∧ Grew W w b v ∧ m.length ≤ 4 * c ∧ K ≤ w.heap.size
theorem Putting.put {W w : World} {b v : Value} {K c : Nat} {m : List Int} {x : Int} (h : Putting W b K c m w v) (hc : c ≤ 20000) (h1 : -1048576 ≤ x) (h2 : x ≤ 1048576) :
    Calls Try.prog 58 #[v, .int .i64 (foldN x : Nat)] w fun e w' => ∃ v', e = .returned v' ∧ Putting W b K (c + 1) (m ++ sevL (foldN x)) w' v' := by
  obtain ⟨h3, h4, h5, h6⟩ := h
  replace h3 : PutB w K v m := .inl h3
  have hf := foldN_le h1 h2
  refine (imgPut_any v m (foldN x) w K h6 h3 (by omega) hf).mono ?_
  rintro e w' ⟨v', rfl, g1, g2⟩
  have := sevL_len4 hf
  exact ⟨v', rfl, g1, h4.trans g2, by rw [List.length_append]; omega, Nat.le_trans h6 g2.size⟩
theorem Putting.cells {W w : World} {b v : Value} {K c g : Nat} {m : List Int} {T : TypeId} {x y z : Value} (h : Putting W b K c m w v) (hb : Blk W g T #[x, y, z]) (hne : b.ownBlock ≠ some g) :
    w.cell? ⟨g, 0, none⟩ = some x ∧ w.cell? ⟨g, 1, none⟩ = some y ∧ w.cell? ⟨g, 2, none⟩ = some z := by
  have hb' := h.2.1.blk hb hne
  exact ⟨by rw [hb'.cell]; rfl, by rw [hb'.cell]; rfl, by rw [hb'.cell]; rfl⟩
theorem Putting.put' {W w : World} {b v : Value} {K c : Nat} {m : List Int} {x : Int} (h : Hid (Putting W b K c m w v)) (hc : c ≤ 20000) (hx : Hid (-1048576 ≤ x ∧ x ≤ 1048576)) :
    Calls Try.prog 58 #[v, .int .i64 (foldN x : Nat)] w fun e w' => ∃ v', e = .returned v' ∧ Putting W b K (c + 1) (m ++ sevL (foldN x)) w' v' := Putting.put h.out hc hx.out.1 hx.out.2
theorem Putting.cells' {W w : World} {b v : Value} {K c g : Nat} {m : List Int} {T : TypeId} {x y z : Value} (h : Hid (Putting W b K c m w v)) (hb : Hid (Blk W g T #[x, y, z])) (hne : Hid (b.ownBlock ≠ some g)) :
    w.cell? ⟨g, 0, none⟩ = some x ∧ w.cell? ⟨g, 1, none⟩ = some y ∧ w.cell? ⟨g, 2, none⟩ = some z := Putting.cells h.out hb.out hne.out
theorem head_own {w w1 : World} (h : w.heap.size ≤ w1.heap.size) (fr : Nat × Nat) : PutB (w1.alloc (.cells #[.int .u8 68, .int .u8 65, .int .u8 77, .int .u8 49] 5 fr)) w.heap.size (.slice (some ⟨w1.heap.size, 0, none⟩) 4 4) [68, 65, 77, 49] :=
  .inr ⟨w1.heap.size, rfl, h, by simp, fun j u hu => by rw [← hu, cell_of_row _ _ j _ _ fr (heap_alloc_new w1 _)]; simp⟩
theorem four_cells (w : World) (t : TypeId) (a b c d : Value) : ∀ j u, [a, b, c, d][j]? = some u → (w.alloc (.cells #[a, b, c, d] t)).cell? ((⟨w.heap.size, 0, none⟩ : Addr).add j) = some u := fun j u hu => by
  rw [add_zero_addr, cell_of_row _ _ j _ _ _ (heap_alloc_new w _), ← hu]; simp
theorem imageSum_s (v : Value) (l : List Int) (w : World) (B : Nat) (h : IsInts .u8 w B v l) :
    Calls Try.prog 60 #[v] w fun e w' => e = .returned (.int .i64 ((sumL l : Nat) : Int)) ∧ w = w' := by
  refine (imageSum_any v l w B h).mono ?_
  rintro e w' ⟨rfl, rfl⟩
  obtain ⟨A, c, rfl, hc, hm, hn, hr, hw⟩ := h
  have := crcTo_lt (l := l) (fun i => by have := byte_at hw i; omega) l.length
  exact ⟨ret_int (by rw [sumL_eq]; omega), rfl⟩
set_option maxRecDepth 100000 in
set_option maxHeartbeats 4000000 in
theorem saveImg_any (v : Value) (n : Nat) (l : List Int) (w : World) (B : Nat) (hB : B ≤ w.heap.size) (h : IsFlat 3 w B v n l) :
    Calls Try.prog 29 #[v] w (GivesBytes (savedL n l) (ptCode n l) w) := by
  have HC := Lib.hid (gridCheck_any v n l w B hB h)
  obtain ⟨A, c, rfl, hc, hm, hn, hl, hr, hw⟩ := h
  by_cases hp : ptCode n l = 0
  rotate_left
  · have HSv := Lib.hid (savedL_no hp)
    have t0 : (ptCode n l != 0) = true := by simpa using hp
    clear hp hr hw
    go_enter Try.func29, Try.ntmps29
    go_wp2_with (go_at_call 57; refine (HC.out).mono ?_; rintro e w1 ⟨rfl, hb1⟩)
    go_ret2
    exact ⟨_, rfl, by rw [HSv.out]; exact isBytes_nil _ _ _, hb1⟩
  · obtain ⟨hn150, hco⟩ := pt_coords hp
    have HSv := Lib.hid (savedL_0 hp)
    have HP := Lib.hid hp
    have HCo := Lib.hid hco
    rw [hp] at HC
    clear hp hco hw
    have kc := fun (w : World) (C : Array Value) (n c : Nat) => Lib.run_convert_bytes_const (P := Try.prog) w 43 5 C n c Try.underlying43 Try.underlying5
    go_enter Try.func29, Try.ntmps29
    go_wp2_with (first
      | (go_at_call 57; refine (HC.out).mono ?_; rintro e w1 ⟨rfl, hb1⟩)
      | (go_at_call 58; refine (imgPut_any _ [68, 65, 77, 49] n _ w.heap.size (by have := hb1.size; simp; omega) (head_own hb1.size _) (by decide) (by omega)).mono ?_; rintro e w2 ⟨v2, rfl, hown2, hgr2⟩; have HOwn := Lib.hid hown2; have HGr := Lib.hid hgr2; clear hown2 hgr2))
    clear kc
    have hz1 := hb1.size
    have HB2 : Hid (Below w.heap.size w w2) := Lib.hid (HGr.out.below (by simp; omega) (fun g hg => by simp only [Value.ownBlock, Option.some.injEq] at hg; omega) |> (hb1.alloc hz1 _).trans)
    go_loopw [5, 7, 21] (fun bv _ iv wr => ∃ i : Nat, i ≤ n ∧ iv = .int .i64 i ∧ OwnB wr w.heap.size bv (bodyL n l (i * 3)) ∧ Below w.heap.size w wr) (fun _ _ iv _ => n - (intOf iv).toNat)
    case atStart => exact ⟨0, by omega, rfl, by rw [Nat.zero_mul, bodyL_0]; exact HOwn.out, HB2.out⟩
    case round =>
      obtain ⟨i, hi, rfl, hown, hbel⟩ := hrel
      by_cases hlt : i < n
      · obtain ⟨b, off, rfl, hb, hcells⟩ := flat_cells hr hl (by omega) (by omega)
        have c0 := (hbel.cell (p := ⟨b, off + i * 3, none⟩) (by simp; omega)).trans (hcells (i * 3) (by omega))
        have c1 := (hbel.cell (p := ⟨b, off + i * 3 + 1, none⟩) (by simp; omega)).trans (hcells (i * 3 + 1) (by omega))
        have c2 := (hbel.cell (p := ⟨b, off + i * 3 + 2, none⟩) (by simp; omega)).trans (hcells (i * 3 + 2) (by omega))
        have hx0 := HCo.out (i * 3) (by omega)
        have hx1 := HCo.out (i * 3 + 1) (by omega)
        have hx2 := HCo.out (i * 3 + 2) (by omega)
        have hS : bodyL n l ((i + 1) * 3) = ((bodyL n l (i * 3) ++ sevL (foldN (l.getD (i * 3) 0))) ++ sevL (foldN (l.getD (i * 3 + 1) 0))) ++ sevL (foldN (l.getD (i * 3 + 2) 0)) := by
          rw [show (i + 1) * 3 = i * 3 + 1 + 1 + 1 from by omega, bodyL_succ, bodyL_succ, bodyL_succ]
        have hL := bodyL_len (n := n) (l := l) hn150 (i * 3) (fun j hj => HCo.out j (by omega))
        generalize l.getD (i * 3) 0 = x0 at *
        generalize l.getD (i * 3 + 1) 0 = x1 at *
        generalize l.getD (i * 3 + 2) 0 = x2 at *
        generalize bodyL n l (i * 3) = m at *
        have HS := Lib.hid hS
        have H0 := Lib.hid fun W => imgFold_any x0 W hx0.1 hx0.2
        have H1 := Lib.hid fun W => imgFold_any x1 W hx1.1 hx1.2
        have H2 := Lib.hid fun W => imgFold_any x2 W hx2.1 hx2.2
        have HX0 := Lib.hid hx0
        have HX1 := Lib.hid hx1
        have HX2 := Lib.hid hx2
        obtain ⟨A2, c3, rfl⟩ := own_shape hown
        have HBk : Hid (Blk (wr.alloc (.cells #[.int .i64 x0, .int .i64 x1, .int .i64 x2] 85)).drew wr.heap.size 85 #[.int .i64 x0, .int .i64 x1, .int .i64 x2]) := Lib.hid (Blk.drew (Blk.new wr _ _))
        have HNe : Hid ((Value.slice A2 m.length c3).ownBlock ≠ some wr.heap.size) := Lib.hid (ne_own hown (Nat.le_refl _))
        have HPu : Hid (Putting (wr.alloc (.cells #[.int .i64 x0, .int .i64 x1, .int .i64 x2] 85)).drew (.slice A2 m.length c3) w.heap.size (2 + i * 3) m (wr.alloc (.cells #[.int .i64 x0, .int .i64 x1, .int .i64 x2] 85)).drew (.slice A2 m.length c3)) :=
          Lib.hid ⟨(hown.alloc _).drew, Grew.refl _ _, by omega, by have := hbel.size; simp; omega⟩
        have HB := Lib.hid (hbel.alloc hbel.size (.cells #[.int .i64 x0, .int .i64 x1, .int .i64 x2] 85))
        clear hown hbel hcells hS hL HC HB2 HOwn HGr
        go_upto_region 8 with (fail)
        go_region_held3 (fun w' => w'.cell? ⟨wr.heap.size, 0, none⟩ = some (.int .i64 x0) ∧ w'.cell? ⟨wr.heap.size, 1, none⟩ = some (.int .i64 x1) ∧ w'.cell? ⟨wr.heap.size, 2, none⟩ = some (.int .i64 x2))
          (first | exact Putting.cells' (by assumption) HBk HNe | go_keep)
          (first
            | (go_at_call 59; refine (imgFold_any _ _ (by omega) (by omega)).mono ?_; rintro e w' ⟨rfl, rfl⟩)
            | (go_at_call 58; refine (Putting.put' (by assumption) (by omega) (by assumption)).mono ?_; rintro e w' ⟨v', rfl, hpp⟩; have HPP := Lib.hid hpp; clear hpp))
        all_goals
          go_wp2_with fail
          go_roundw
          case rel => exact ⟨i + 1, by omega, by go_num, by rw [HS.out]; exact HPP.out.1, HPP.out.2.1.below_own (HPu.out.1) (Nat.le_refl _) HPu.out.2.2.2 HB.out.drew⟩
          case measure => simp [intOf]; omega
      · obtain rfl : i = n := by omega
        have HS2 := Lib.hid (saveL_eq i l)
        have HL := bodyL_len (n := i) (l := l) hn150 (i * 3) HCo.out
        have hwf := bodyL_wf i l (i * 3)
        have HSm := Lib.hid (imageSum_s _ _ wr _ (own_ints hown (by omega) hwf))
        generalize hmm : bodyL i l (i * 3) = m at *
        have HMM := Lib.hid hmm
        have hs := sumL_lt m
        have HO := Lib.hid hown
        have HBe := Lib.hid hbel
        obtain ⟨A2, c3, rfl⟩ := own_shape hown
        generalize sumL m = s at *
        clear hmm hown hbel hwf HC HB2 HOwn HGr hr
        go_wp2_with (first
          | (go_at_call 60; refine (HSm.out).mono ?_; rintro e w1 ⟨rfl, rfl⟩)
          | (at_builtin; refine wpList_pushM el_u8 rfl (.tmp 41) (.tmp 53) rfl w.heap.size _ m.length _ (HO.out.alloc _) rfl ⟨wr.heap.size, 0, none⟩ 4 4 [.int .u8 (s / 16777216), .int .u8 (s / 65536 % 256), .int .u8 (s / 256 % 256), .int .u8 (s % 256)] rfl rfl (four_cells wr _ _ _ _ _) (by simp [Value.oneCell']) (by omega) (by omega) (by have := HBe.out.size; simp; omega) ?_; intro v' w2 hown2 hg2 hl2))
        go_ret2
        have hsz := HBe.out.size
        refine ⟨v', by rw [HP.out]; rfl, ?_, (HBe.out.alloc hsz _).grown hg2 (by simp; omega) (fun k hk => (HO.out.lt k hk).1)⟩
        rw [HSv.out]
        have hll : (saveL i l).length = m.length + 4 := by rw [HS2.out, List.length_append, tailL_len]
        refine own_ints (base := w.heap.size) (E := 5) (n := m.length + 4) ?_ (by omega) (saveL_wf i l)
        rw [HS2.out, List.map_append, tailL_eq, show s / 16777216 % 256 = s / 16777216 from by omega]
        exact hown2
end Go.Proofs.Ytjniiiimkejkiaa
