/-
  Contract of the reference's WaveRead: the numbers of a wave that may be. Conditions: the wave can be read as data, and may be.
-/
import Derived.Test.YtjnndbllaplkcaaWaveReadPlain
import Derived.Test.YtjnndbllaplkcaaBools
import Derived.Test.YtjnndbllaplkcaaSameInts
import Derived.Test.YtjnndbllaplkcaaOwnBlk
import Derived.Test.YtjnndbllaplkcaaPush
import Derived.Test.YtjnndbllaplkcaaIntRows
import Derived.Laws.AppendOwnNone
import Derived.Lib.HexFns
namespace Go.Dam
open Go Go.RowKit
set_option linter.unusedVariables false
/-- The old blocks but the one of 'row' stay, when blocks of the call's own are written. -/
theorem grown_new {w a b : World} {row r' : Option Nat} (h : w.grownBy a row) (k : a.grownBy b r') (hr : ∀ x, r' = some x → w.heap.size ≤ x) : w.grownBy b row :=
  ⟨k.os.trans h.os, k.tape.trans h.tape, k.output.trans h.output, Nat.le_trans h.size k.size, fun i hi hne => (k.block i (Nat.lt_of_lt_of_le hi h.size) (fun e => by have := hr i e.symm; omega)).trans (h.block i hi hne)⟩
theorem grown_store' {w a : World} {g : Nat} {p : Addr} (h : w.grownBy a (some g)) (hp : p.block = g) (v : Value) : w.grownBy (a.setCell p v) (some g) :=
  ⟨h.os, h.tape, h.output, Nat.le_trans h.size (by simp [World.setCell]), fun i hi hne => (Below.heap_setCell a p v i (fun e => hne (by rw [e, hp]))).trans (h.block i hi hne)⟩
theorem grown_low' {w a : World} {g : Nat} (h : w.grownBy a (some g)) (hg : g ≤ w.heap.size) : Below g w a := ⟨h.os, h.tape, h.output, h.size, fun i hi => h.block i (by omega) (by simp; omega)⟩
theorem tabI_len (f : Nat → Nat) (n : Nat) : (toInts (tab f n)).length = n := by rw [toInts_eq, List.length_map, tab_length]
theorem tabI_at {f : Nat → Nat} {n i : Nat} (h : i < n) : (toInts (tab f n)).getD i 0 = ((f i : Nat) : Int) := by
  rw [toInts_eq]; simp [tab, h]
theorem tabI_set {l : List Nat} {p x : Nat} : (toInts l).set p ((x : Nat) : Int) = toInts (l.set p x) := by
  rw [toInts_eq, toInts_eq, List.map_set]
theorem intsOf_at {l : List Nat} {i : Nat} (h : i < l.length) : ((toInts l).map (Value.int .i64))[i]? = some (.int .i64 ((l.getD i 0 : Nat) : Int)) := by
  rw [toInts_eq, List.map_map, List.getElem?_map, List.getElem?_eq_getElem h, List.getD_eq_getElem?_getD, List.getElem?_eq_getElem h]; rfl
theorem bool_cell {w : World} {B : Nat} {A : Option Addr} {c : Nat} {l : List Bool} (h : IsBools w B (.slice A l.length c) l) (h0 : 0 < l.length) : l.length ≤ c ∧ ∃ b off, A = some ⟨b, off, none⟩ ∧ b < B ∧ ∀ k, k < l.length → w.cell? ⟨b, off + k, none⟩ = some (.bool (l.getD k false)) := by
  obtain ⟨A', c', hv, hc, hm, hn, hr⟩ := h
  obtain ⟨rfl, rfl⟩ : A = A' ∧ c = c' := by injection hv with a b c; exact ⟨a, c⟩
  exact ⟨hc, bools_at hr h0⟩
theorem toInts_app (a b : List Nat) : toInts (a ++ b) = toInts a ++ toInts b := by rw [toInts_eq, toInts_eq, toInts_eq, List.map_append]
theorem toInts_len (a : List Nat) : (toInts a).length = a.length := by rw [toInts_eq, List.length_map]
end Go.Dam
namespace Go.Proofs.Ytjnndbllaplkcaa
open Go Go.RowKit Go.Dam
set_option linter.unusedVariables false
/-- What WaveRead gives, with its shape. -/
def GivesNumsS (l : List Nat) (w : World) (e : Ending) (w' : World) : Prop := ∃ u, e = .returned u ∧ IsInts .i64 w' w'.heap.size u (toInts l) ∧ Below w.heap.size w w' ∧ (u = .slice none 0 0 ∨ ∃ ad k c, u = .slice (some ad) k c)
/-- What WaveRead gives. -/
def GivesNums (l : List Nat) (w : World) (e : Ending) (w' : World) : Prop := ∃ u, e = .returned u ∧ IsInts .i64 w' w'.heap.size u (toInts l) ∧ Below w.heap.size w w'
set_option maxRecDepth 100000 in
set_option maxHeartbeats 4000000 in
theorem refWaveRead_shape (v : Value) (rs : List (Int × List Nat)) (n : Nat) (w : World) (B : Nat) (hB : B ≤ w.heap.size) (h : IsWave w B v rs) (hm : MayWave rs) (hn : lenW rs = n) :
    Calls Try.prog 72 #[v] w (GivesNumsS (tab (valW n (rowsW rs) rs.length) n) w) := by
  obtain ⟨n', hn', hn300, hn0, hm21, hrow⟩ := mayWave_len hm
  obtain rfl : n = n' := by omega
  obtain ⟨s, rfl, h⟩ := h
  have HI := Lib.hid h
  obtain ⟨A, c, vs, rfl, hc, hcm, hl, _, _⟩ := h
  by_cases h0 : rs.length = 0
  · obtain rfl : n = 0 := hn0 h0
    rw [tab_nil, h0]
    clear HI hrow hn hn' hn0 h0
    go_enter Try.func72, Try.ntmps72
    go_wp2_with fail
    go_ret
    exact ⟨_, rfl, by rw [toInts_eq]; exact isInts_nil _ _ _, (Below.refl _ _).alloc (Nat.le_refl _) _, .inl rfl⟩
  have HRow := Lib.hid hrow
  have hl0 : 0 < rs.length := by omega
  have hl0' : (0 : Int) < (rs.length : Int) := by omega
  have hd0 : ((rs.length : Int) == 0) = false := beq_eq_false_iff_ne.2 (by omega)
  obtain ⟨_, b, off, rfl, hb, hrows⟩ := rows_at HI.out hl0
  obtain ⟨_, z0, _, _, _⟩ := hrows 0 hl0
  rw [(hrow 0 hl0).1, Nat.zero_mul, Nat.add_zero] at z0
  have HRows := Lib.hid hrows
  have hmk := fun w' => run_make1 el_int rfl (n : Int) n rfl (by omega) (by omega) w'
  simp only [zerosV_eq] at hmk
  have hbw : b < w.heap.size := by omega
  have hv0 : Hid (toInts (tab (valW n (rowsW rs) 0) n) = List.replicate n 0) := Lib.hid (by rw [← tab_zero n]; congr 1; exact tab_congr fun j _ => valW_0 _ _ _)
  have ho0 : Hid (ordW n (rowsW rs) 0 = List.range n) := Lib.hid (ordW_0 _ _)
  clear hrow hrows hn hn' hn0 hm
  go_enter Try.func72, Try.ntmps72
  go_wp2_with fail
  go_loopw [5, 6] (fun ov iv wr => ∃ i : Nat, i ≤ n ∧ iv = .int .i64 i ∧ wr.ownsRow (w.heap.size + 1 + 1) 3 1 ov i ((toInts (List.range i)).map (Value.int .i64)) ∧ IBlk .i64 3 wr (w.heap.size + 1) (List.replicate n 0) ∧ Blk wr w.heap.size 25 #[.slice (some ⟨b, off, none⟩) rs.length c] ∧ Below w.heap.size w wr) (fun _ iv _ => n - (intOf iv).toNat)
  case atStart => exact ⟨0, by omega, rfl, by rw [toInts_eq]; exact World.ownsRow_nil _ _ _ _, IBlk.zerosV_at _ _ _ _ (by simp), (Blk.new w _ _).alloc _, ((Below.refl _ _).alloc (Nat.le_refl _) _).alloc (by simp) _⟩
  case round =>
    obtain ⟨i, hi, rfl, hown, hout, hbox, hbel⟩ := hrel
    obtain ⟨A2, c2, rfl⟩ := own_shape hown
    have HO := Lib.hid hown
    have HOut := Lib.hid hout
    have HBox := Lib.hid hbox
    have HBe := Lib.hid hbel
    have hz2 := hout.lt
    clear hown hout hbox hbel
    by_cases hlt : i < n
    · go_wp2_with (at_builtin; refine wpList_push el_int rfl (.tmp 29) (.tmp 31) rfl (w.heap.size + 1 + 1) (.slice A2 i c2) i _ (HO.out.alloc _) rfl wr.heap.size 1 _ rfl (new_cell (by simp)) rfl (by omega) (by omega) (by simp; omega) ?_; intro v' w2 hown2 hg2)
      have e1 : (toInts (List.range i)).map (Value.int .i64) ++ [.int .i64 (i : Int)] = (toInts (List.range (i + 1))).map (Value.int .i64) := by rw [List.range_succ, toInts_app, List.map_append]; simp [toInts_eq]
      rw [e1] at hown2
      go_roundw
      case rel => exact ⟨i + 1, by omega, by go_num, hown2, (HOut.out.alloc _).grown hg2 (Ne.symm (own_ne HO.out (by omega))), (HBox.out.alloc _).grown hg2 (Ne.symm (own_ne HO.out (by omega))), below_push (HBe.out.alloc (by omega) _) (HO.out.alloc _) (by omega) (by simp; omega) hg2⟩
      case measure => simp [intOf]; omega
    · obtain rfl : n = i := by omega
      have kb : wr.cell? ⟨w.heap.size, 0, none⟩ = some (.slice (some ⟨b, off, none⟩) rs.length c) := HBox.out.cell 0
      go_wp2_with fail
      clear kb
      go_loopw [5, 36] (fun ov kv wr2 => ∃ k : Nat, k ≤ rs.length ∧ kv = .int .i64 k ∧ wr2.ownsRow (w.heap.size + 1 + 1) 3 1 ov n ((toInts (ordW n (rowsW rs) k)).map (Value.int .i64)) ∧ IBlk .i64 3 wr2 (w.heap.size + 1) (toInts (tab (valW n (rowsW rs) k) n)) ∧ Blk wr2 w.heap.size 25 #[.slice (some ⟨b, off, none⟩) rs.length c] ∧ Below w.heap.size w wr2) (fun _ kv _ => rs.length - (intOf kv).toNat)
      case atStart => exact ⟨0, by omega, rfl, by rw [ho0.out]; exact HO.out, by rw [hv0.out]; exact HOut.out, HBox.out, HBe.out⟩
      case round =>
        clear HO HOut HBox HBe hv0 ho0 hz2
        obtain ⟨wo, rfl⟩ : ∃ wo : World, wo = wr := ⟨_, rfl⟩
        obtain ⟨k, hk, rfl, hown, hout, hbox, hbel⟩ := hrel
        obtain ⟨A4, c4, rfl⟩ := own_shape hown
        have hz2 := hout.lt
        have HBe := Lib.hid hbel
        by_cases hlt : k < rs.length
        · obtain ⟨sv, c0, c1, hln64, hws⟩ := HRows.out k hlt
          obtain ⟨e1, hmk2⟩ := HRow.out k hlt
          rw [← rowsW_at] at hws
          rw [e1] at c0 hln64
          have HOs := Lib.hid (ordW_succ n (rowsW rs) k)
          have HOl := Lib.hid (ordW_length n (rowsW rs) k)
          have HMid0 := Lib.hid (midW_0 n (rowsW rs) k)
          have HMidn := Lib.hid (midW_n n (rowsW rs) k)
          have HMidAt := Lib.hid fun t (ht : t < n) => midW_at (rows := rowsW rs) (k := k) ht
          have HMidS := Lib.hid fun t (ht : t < n) => midW_step (rows := rowsW rs) (k := k) ht
          have HPos := Lib.hid fun t (ht : t < n) => (ordW_pos (rows := rowsW rs) k t ht).1
          have HVB := Lib.hid fun j => valW_bound (n := n) (k := k) (j := j) (rows := rowsW rs) (by omega)
          generalize (rowsW rs).getD k [] = ws at *
          generalize ordW n (rowsW rs) k = O at *
          have hws2 := hws
          obtain ⟨As, cs, rfl, _⟩ := hws2
          have d0 := (hbel.cell (p := ⟨b, off + k * 2, none⟩) (by simp; omega)).trans c0
          have d1 := (hbel.cell (p := ⟨b, off + k * 2 + 1, none⟩) (by simp; omega)).trans c1
          have hA := hbel.alloc (by omega) (.cells #[.int .i64 n, .slice As ws.length cs] 32)
          have HBo := Lib.hid (bools_any (.agg #[.int .i64 n, .slice As ws.length cs]) n ws (wo.alloc (.cells #[.int .i64 n, .slice As ws.length cs] 32)) B (Nat.le_trans hB hA.size) ⟨_, rfl, hln64, hws.below (hA.mono hB)⟩ hmk2)
          have HO := Lib.hid hown
          have HOut := Lib.hid hout
          have HBox := Lib.hid hbox
          have HRl := Lib.hid (rowBits_length ws n)
          have HRg := Lib.hid fun t (ht : t < n) => rowBits_get ws n t ht
          clear hown hout hbox hbel c0 c1 hws hmk2 hA
          go_wp2_with (go_at_call 93; refine (HBo.out).mono ?_; rintro e w2 ⟨u, rfl, hu, hb2⟩; have hz3 := size_box hb2; have HB2 := Lib.hid (below_box hb2); have HU := Lib.hid hu; obtain ⟨Au, cu, hveq, _⟩ := hu; rw [HRl.out] at hveq; subst hveq; clear hb2)
          have HO2 := Lib.hid (own_size HO.out HB2.out)
          have HOut2 := Lib.hid (HOut.out.below HB2.out hz2)
          have HBox2 := Lib.hid (HBox.out.below HB2.out (by omega))
          go_loopw [9, 10, 43] (fun zv uv tv wr3 => ∃ t : Nat, t ≤ n ∧ tv = .int .i64 t ∧ wr3.ownsRow w2.heap.size 3 1 zv (cntB ws false t) ((toInts (selW ws false O t)).map (Value.int .i64)) ∧ wr3.ownsRow w2.heap.size 3 1 uv (cntB ws true t) ((toInts (selW ws true O t)).map (Value.int .i64)) ∧ Apart zv uv ∧ IBlk .i64 3 wr3 (w.heap.size + 1) (toInts (tab (midW n (rowsW rs) k t) n)) ∧ w2.grownBy wr3 (some (w.heap.size + 1))) (fun _ _ tv _ => n - (intOf tv).toNat)
          case atStart => exact ⟨0, by omega, rfl, by rw [selW_0, cntB_0, toInts_eq]; exact World.ownsRow_nil _ _ _ _, by rw [selW_0, cntB_0, toInts_eq]; exact World.ownsRow_nil _ _ _ _, Apart.nil _, by rw [HMid0.out]; exact HOut2.out, World.grownBy.refl _ _⟩
          case round =>
            obtain ⟨t, ht, rfl, hzo, huo, hap, hout, hrk⟩ := hrel
            obtain ⟨Az, cz, rfl⟩ := own_shape hzo
            obtain ⟨Ao, co, rfl⟩ := own_shape huo
            have HZo := Lib.hid hzo
            have HUo := Lib.hid huo
            have HAp := Lib.hid hap
            have HOut3 := Lib.hid hout
            have HRk := Lib.hid hrk
            have hz4 := hrk.size
            by_cases htn : t < n
            · obtain ⟨go, cgo, eo⟩ := Go.Joins.ownsRow_form HO2.out (by omega)
              obtain ⟨rfl, rfl⟩ : A4 = some ⟨go, 0, none⟩ ∧ c4 = cgo := by injection eo with a _ b; exact ⟨a, b⟩
              have hgo := HO2.out.lt go rfl
              have ko := hrk.cell ((HO2.out.cellAt t (by omega)).trans (intsOf_at (by rw [HOl.out]; exact htn))) (by simp; omega)
              obtain ⟨_, bb, offb, rfl, hbb, hbc⟩ := bool_cell (l := rowBits ws n) (by rw [HRl.out]; exact HU.out) (by rw [HRl.out]; omega)
              have hbt := hbc t (by rw [HRl.out]; exact htn)
              have hbg : bb ≠ w.heap.size + 1 := by
                intro e
                subst e
                rw [Blk.cell HOut2.out] at hbt
                simp at hbt
              have kbt := hrk.cell hbt (by simp; exact hbg)
              rw [HRg.out t htn] at kbt
              have hon := HPos.out t htn
              have hat := HMidAt.out t htn
              have hst := HMidS.out t htn
              have hvb := HVB.out (O.getD t 0)
              have HSy := Lib.hid fun one (h : bitAt ws t = one) => selW_yes (O := O) h
              have HSn := Lib.hid fun one (h : ¬ bitAt ws t = one) => selW_no (O := O) h
              have HCy := Lib.hid fun one (h : bitAt ws t = one) => cntB_yes h
              have HCn := Lib.hid fun one (h : ¬ bitAt ws t = one) => cntB_no h
              have hcz := cntB_le ws false t
              have hcu := cntB_le ws true t
              generalize O.getD t 0 = o at *
              have kx := hout.cell (i := o) (by rw [tabI_len]; exact hon)
              rw [tabI_at hon, hat] at kx
              have fx := hout.frozen o
              have HSt := Lib.hid hst
              generalize valW n (rowsW rs) k o = x at *
              have HZ1 := Lib.hid (ownsRow_setCell_below HZo.out (a := ⟨w.heap.size + 1, o, none⟩) (by simp; omega) (.int .i64 ((x : Int) * 2)))
              have HU1 := Lib.hid (ownsRow_setCell_below HUo.out (a := ⟨w.heap.size + 1, o, none⟩) (by simp; omega) (.int .i64 ((x : Int) * 2)))
              have HI1 := Lib.hid (hout.set o ((x : Int) * 2))
              have RK1 := Lib.hid (grown_store' HRk.out (p := ⟨w.heap.size + 1, o, none⟩) rfl (.int .i64 ((x : Int) * 2)))
              have eo1 : ∀ l : List Int, l ++ toInts [o] = l ++ [(o : Int)] := fun l => by rw [toInts_eq]; rfl
              have HE1 := Lib.hid eo1
              clear hzo huo hap hout hrk hbc hbt hat hst eo eo1
              cases hbit : bitAt ws t
              · rw [hbit] at kbt HSt
                go_wp2_with (at_builtin; refine wpList_pushD el_int rfl (.tmp 74) (.tmp 79) rfl w2.heap.size (.slice Az (cntB ws false t) cz) (cntB ws false t) _ (HZ1.out.alloc _) rfl wr.heap.size 1 _ rfl (new_cell (by simp)) rfl (by omega) (by omega) (by simp; omega) ?_; intro v' w5 hown5 hg5 hl5)
                have e5 : (toInts (selW ws false O t)).map (Value.int .i64) ++ [.int .i64 (o : Int)] = (toInts (selW ws false O (t + 1))).map (Value.int .i64) := by rw [HSy.out false hbit, toInts_app, HE1.out, List.map_append]; rfl
                have eI : (toInts (tab (midW n (rowsW rs) k t) n)).set o ((x : Int) * 2) = toInts (tab (midW n (rowsW rs) k (t + 1)) n) := by rw [← HSt.out, ← tabI_set]; congr 1; simp; omega
                have HI1' := HI1.out
                rw [eI] at HI1'
                rw [e5] at hown5
                go_roundw
                case rel => exact ⟨t + 1, by omega, by go_num, by rw [HCy.out false hbit]; exact hown5, by rw [HCn.out true (by rw [hbit]; decide), HSn.out true (by rw [hbit]; decide)]; exact HAp.out.kept hg5 (HU1.out.alloc _), HAp.out.grow hl5 (HU1.out.alloc _), (HI1'.alloc _).grown hg5 (Ne.symm (own_ne HZ1.out (by omega))), grown_new (grown_new RK1.out (World.grownBy_alloc _ _ none) (by simp)) hg5 (fun y hy => (HZ1.out.lt y hy).1)⟩
                case measure => simp [intOf]; omega
              · rw [hbit] at kbt HSt
                have HZ2 := Lib.hid (ownsRow_setCell_below HZ1.out (a := ⟨w.heap.size + 1, o, none⟩) (by simp; omega) (.int .i64 ((x : Int) * 2 + 1)))
                have HU2 := Lib.hid (ownsRow_setCell_below HU1.out (a := ⟨w.heap.size + 1, o, none⟩) (by simp; omega) (.int .i64 ((x : Int) * 2 + 1)))
                have HI2 := Lib.hid (HI1.out.set o ((x : Int) * 2 + 1))
                have RK2 := Lib.hid (grown_store' RK1.out (p := ⟨w.heap.size + 1, o, none⟩) rfl (.int .i64 ((x : Int) * 2 + 1)))
                go_wp2_with (at_builtin; refine wpList_pushD el_int rfl (.tmp 67) (.tmp 72) rfl w2.heap.size (.slice Ao (cntB ws true t) co) (cntB ws true t) _ (HU2.out.alloc _) rfl wr.heap.size 1 _ rfl (new_cell (by simp)) rfl (by omega) (by omega) (by simp; omega) ?_; intro v' w5 hown5 hg5 hl5)
                have e5 : (toInts (selW ws true O t)).map (Value.int .i64) ++ [.int .i64 (o : Int)] = (toInts (selW ws true O (t + 1))).map (Value.int .i64) := by rw [HSy.out true hbit, toInts_app, HE1.out, List.map_append]; rfl
                have eI : ((toInts (tab (midW n (rowsW rs) k t) n)).set o ((x : Int) * 2)).set o ((x : Int) * 2 + 1) = toInts (tab (midW n (rowsW rs) k (t + 1)) n) := by rw [List.set_set, ← HSt.out, ← tabI_set]; congr 1; simp; omega
                have HI2' := HI2.out
                rw [eI] at HI2'
                rw [e5] at hown5
                go_roundw
                case rel => exact ⟨t + 1, by omega, by go_num, by rw [HCn.out false (by rw [hbit]; decide), HSn.out false (by rw [hbit]; decide)]; exact HAp.out.symm.kept hg5 (HZ2.out.alloc _), by rw [HCy.out true hbit]; exact hown5, (HAp.out.symm.grow hl5 (HZ2.out.alloc _)).symm, (HI2'.alloc _).grown hg5 (Ne.symm (own_ne HU2.out (by omega))), grown_new (grown_new RK2.out (World.grownBy_alloc _ _ none) (by simp)) hg5 (fun y hy => (HU2.out.lt y hy).1)⟩
                case measure => simp [intOf]; omega
            · obtain rfl : n = t := by omega
              have hcb := cntB_both ws n
              have HBox3 := Lib.hid (HBox2.out.grown HRk.out (by simp))
              have HBe3 := Lib.hid ((HBe.out.trans (HB2.out.mono (by omega))).trans ((grown_low' HRk.out (by omega)).mono (by omega)))
              have HSl := Lib.hid (selW_length ws true O n)
              have HApp : Hid (toInts (ordW n (rowsW rs) (k + 1)) = toInts (selW ws false O n) ++ toInts (selW ws true O n)) := Lib.hid (by rw [HOs.out, toInts_app])
              rw [HMidn.out] at HOut3
              clear hzo huo hap hout hrk
              generalize hmu : cntB ws true n = mu at *
              generalize hmz : cntB ws false n = mz at *
              generalize selW ws true O n = SU at *
              generalize selW ws false O n = SZ at *
              rcases Go.Joins.ownsRow_forms HUo.out with ⟨hv, h0⟩ | ⟨gu, cu2, hv⟩
              · obtain ⟨rfl, rfl⟩ : Ao = none ∧ co = 0 := by injection hv with a _ b; exact ⟨a, b⟩
                subst h0
                have hnz : mz = n := by omega
                have hSU : SU = [] := List.eq_nil_of_length_eq_zero HSl.out
                have HOwn : Hid (wr.ownsRow (w.heap.size + 1 + 1) 3 1 (.slice Az mz cz) n ((toInts (ordW n (rowsW rs) (k + 1))).map (Value.int .i64))) := Lib.hid (by
                  have := own_base HZo.out (show w.heap.size + 1 + 1 ≤ w2.heap.size by omega)
                  rw [hnz] at this ⊢
                  rw [HApp.out, hSU, show toInts ([] : List Nat) = [] from by rw [toInts_eq]; rfl, List.append_nil]
                  exact this)
                obtain ⟨ii, hii, _, _, _⟩ := el_int.info
                clear hv hSU hnz
                go_wp2_with (at_builtin; refine wpList_append_own_none rfl (.tmp 82) (.tmp 83) 22 rfl w2.heap.size 3 ii 1 el_int.ht hii (.slice Az mz cz) mz _ rfl HZo.out rfl ?_)
                go_roundw
                case rel => exact ⟨k + 1, by omega, by go_num, HOwn.out, HOut3.out, HBox3.out, HBe3.out⟩
                case measure => simp [intOf]; omega
              · obtain ⟨rfl, rfl⟩ : Ao = some ⟨gu, 0, none⟩ ∧ co = cu2 := by injection hv with a _ b; exact ⟨a, b⟩
                have HOne : Hid (∀ y ∈ (toInts SU).map (Value.int .i64), y.oneCell' = true) := Lib.hid fun y hy => by obtain ⟨z, _, rfl⟩ := List.mem_map.1 hy; rfl
                have HNews : Hid (∀ j x, ((toInts SU).map (Value.int .i64))[j]? = some x → wr.cell? ((⟨gu, 0, none⟩ : Addr).add j) = some x) := Lib.hid fun j x hx => by
                  rw [add_zero_addr, HUo.out.cellAt j (by
                    rcases Nat.lt_or_ge j (mu * 1) with h | h
                    · exact h
                    · rw [List.getElem?_eq_none (by rw [List.length_map, toInts_len, HSl.out]; omega)] at hx; cases hx)]
                  exact hx
                have HGM : Hid (((toInts SU).map (Value.int .i64)).length = mu * 1) := Lib.hid (by rw [List.length_map, toInts_len, HSl.out]; omega)
                clear hv
                have hmzmu : mz + mu = n := by omega
                go_wp2_with (at_builtin; refine wpList_pushM el_int rfl (.tmp 82) (.tmp 83) rfl w2.heap.size (.slice Az mz cz) mz _ HZo.out rfl ⟨gu, 0, none⟩ mu co _ rfl HGM.out HNews.out HOne.out (by omega) (by omega) (by omega) ?_; intro v' w5 hown5 hg5 hl5)
                rw [← List.map_append, ← HApp.out, show mz + mu = n from by omega] at hown5
                go_roundw
                case rel => exact ⟨k + 1, by omega, by go_num, own_base hown5 (by omega), HOut3.out.grown hg5 (Ne.symm (own_ne HZo.out (by omega))), HBox3.out.grown hg5 (Ne.symm (own_ne HZo.out (by omega))), below_push HBe3.out HZo.out (by omega) (by omega) hg5⟩
                case measure => simp [intOf]; omega
        · obtain rfl : k = rs.length := by omega
          have hfin := IBlk.isInts hout (by rw [tabI_len]; omega) (tab_wf (b := 2097152) (fun j hj => valW_bound hm21) (by decide))
          rw [tabI_len] at hfin
          have HF := Lib.hid hfin
          clear hfin hout hown hbox hbel
          go_wp2_with fail
          go_ret
          exact ⟨_, rfl, HF.out, HBe.out, .inr ⟨_, _, _, rfl⟩⟩
theorem refWaveRead_any (v : Value) (rs : List (Int × List Nat)) (n : Nat) (w : World) (B : Nat) (hB : B ≤ w.heap.size) (h : IsWave w B v rs) (hm : MayWave rs) (hn : lenW rs = n) :
    Calls Try.prog 72 #[v] w (GivesNums (tab (valW n (rowsW rs) rs.length) n) w) :=
  (refWaveRead_shape v rs n w B hB h hm hn).mono fun e w' ⟨u, h1, h2, h3, _⟩ => ⟨u, h1, h2, h3⟩
end Go.Proofs.Ytjnndbllaplkcaa
