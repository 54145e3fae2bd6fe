/-
  Contract of the reference's GamEncoded. Conditions: the list can be read as data.
-/
import Derived.Test.YteblkbgcnoepnaaGamEncode
import Derived.Test.YteblkbgcnoepnaaOwnBlk
import Derived.WalkSmall
namespace Go.Dam
open Go Go.RowKit
set_option linter.unusedVariables false
theorem own_iterAt {w : World} {base k size n p p' : Nat} {e : TypeId} {v : Value} {s : ByteArray} {xs : List Value} (h : w.ownsRow base e size v n xs) (hk : w.heap[k]? = some (.stringIter s p)) : (w.iterAt k s p').ownsRow base e size v n xs := by
  refine ⟨h.1, ?_⟩
  rcases h.2 with hn | ⟨g, cap, cur, rfl, h1, h2, rest⟩
  · exact .inl hn
  · refine .inr ⟨g, cap, cur, rfl, h1, ?_, rest⟩
    rw [Lib.iterAt_other]
    · exact h2
    · intro e; subst e; rw [hk] at h2; cases h2
theorem Blk.iterAt {w : World} {g k p p' : Nat} {t : TypeId} {cs : Array Value} {s : ByteArray} (h : Blk w g t cs) (hk : w.heap[k]? = some (.stringIter s p)) : Blk (w.iterAt k s p') g t cs := by
  unfold Blk at *
  rw [Lib.iterAt_other]
  · exact h
  · intro e; subst e; rw [hk] at h; cases h
theorem own_ne_iter {w : World} {base k size n p : Nat} {e : TypeId} {v : Value} {s : ByteArray} {xs : List Value} (h : w.ownsRow base e size v n xs) (hk : w.heap[k]? = some (.stringIter s p)) : some k ≠ v.ownBlock := by
  intro e
  rcases h.2 with ⟨rfl, _⟩ | ⟨g, cap, cur, rfl, h1, h2, rest⟩
  · simp [Value.ownBlock] at e
  · simp [Value.ownBlock] at e
    subst e
    rw [hk] at h2; cases h2
/-- The next byte of a text of 0 and 1. -/
theorem next_txt {P : Program} {w : World} {k t : Nat} {l : List Bool} (hk : w.heap[k]? = some (.stringIter (txtB l) t)) (ht : t < l.length) (ty : TypeId) :
    (Instr.next (.pointer (some ⟨k, 0, none⟩)) true ty).run P w = .ok (.tuple #[.bool true, .int .i64 t, .int .i32 (if l.getD t false then 49 else 48)]) (w.iterAt k (txtB l) (t + 1)) := by
  have hs : t < (txtB l).size := by rw [txtB_size]; exact ht
  have hb := txtB_at l t hs
  rw [Lib.run_next_ascii_at w k (txtB l) t ty hk hs (by rw [hb]; split <;> decide), hb]
  split <;> rfl
theorem next_done {P : Program} {w : World} {k : Nat} {l : List Bool} (hk : w.heap[k]? = some (.stringIter (txtB l) l.length)) (ty : TypeId) :
    (Instr.next (.pointer (some ⟨k, 0, none⟩)) true ty).run P w = .ok (.tuple #[.bool false]) w :=
  Lib.run_next_end_at w k (txtB l) _ ty hk (by rw [txtB_size]; omega)
end Go.Dam
namespace Go.Proofs.Yteblkbgcnoepnaa
open Go Go.RowKit Go.Dam
set_option linter.unusedVariables false
set_option maxRecDepth 100000 in
set_option maxHeartbeats 400000 in
theorem refGamEncode_kind (k : Int) (v : Value) (l : List Int) (w : World) (B : Nat) (hk : I64 k) (h : IsInts .i64 w B v l) (hn : ¬ kinded k) :
    Calls Try.prog 22 #[.int .i64 k, v] w (GivesRow 0 [] 3 w) := by
  obtain ⟨e1, e2, e3, e4⟩ := not_kinded hn
  obtain ⟨A, c, rfl, hc, hm, hb, hr, hw⟩ := h
  clear hn hr hw
  unfold I64 at hk
  go_enter Try.func22, Try.ntmps22
  go_wp2_with fail
  exact bodyPost_ret (v := .tuple #[.agg #[.int .i64 0, .slice none 0 0], .int .i64 3]) (by simp [results, Try.results22, go_sem]) rfl ⟨_, rfl, isWords_nil _ _, ((Below.refl _ _).alloc (Nat.le_refl _) _)⟩
set_option maxRecDepth 100000 in
set_option maxHeartbeats 400000 in
theorem refGamEncode_long (k : Int) (v : Value) (l : List Int) (w : World) (B : Nat) (h : IsInts .i64 w B v l) (hn : kinded k) (hl : 300 < l.length) :
    Calls Try.prog 22 #[.int .i64 k, v] w (GivesRow 0 [] 1 w) := by
  obtain ⟨A, c, rfl, hc, hm, hb, hr, hw⟩ := h
  clear hr hw
  rcases hn with rfl | rfl
  all_goals
    go_enter Try.func22, Try.ntmps22
    go_wp2_with fail
    exact bodyPost_ret (v := .tuple #[.agg #[.int .i64 0, .slice none 0 0], .int .i64 1]) (by simp [results, Try.results22, go_sem]) rfl ⟨_, rfl, isWords_nil _ _, ((Below.refl _ _).alloc (Nat.le_refl _) _)⟩
set_option maxRecDepth 100000 in
set_option maxHeartbeats 2000000 in
theorem refGamEncode_some (k : Int) (v : Value) (l : List Int) (n : Int) (ws : List Nat) (cc : Int) (w : World) (B : Nat) (hB : B ≤ w.heap.size) (h : IsInts .i64 w B v l) (hn : kinded k) (hl : l.length ≤ 300) (hR : EncR k l n ws cc) :
    Calls Try.prog 22 #[.int .i64 k, v] w (GivesRow n ws cc w) := by
  obtain ⟨K, hK⟩ : ∃ K, K = k := ⟨_, rfl⟩
  have HC0 := Lib.hid fun W m h1 h2 => gamText_any k m W hn h1 h2
  have HN := Lib.hid hn
  have HR := Lib.hid hR
  rw [← hK] at HR HN
  have HC : Hid (∀ (W : World) (m : Nat), 1 ≤ m → m ≤ 1048576 → Calls Try.prog 50 #[.int .i64 k, .int .i64 m] W fun e w' => e = .returned (.string (txtB (gamK K m))) ∧ Drawn W w') := Lib.hid (by rw [hK]; exact HC0.out)
  clear hK HC0
  obtain ⟨A, c, rfl, hc, hm, hb, hr, hw⟩ := h
  clear hR
  rcases hn with rfl | rfl
  all_goals
    go_enter Try.func22, Try.ntmps22
    go_wp2_with fail
    go_loopw [6, 24] (fun ov iv wr => ∃ i : Nat, i ≤ l.length ∧ iv = .int .i64 i ∧ wr.ownsRow (w.heap.size + 1) 4 1 ov (encL K (l.take i)).length ((encL K (l.take i)).map Value.bool) ∧ Blk wr w.heap.size 24 #[.int .i64 0, .slice none 0 0] ∧ Below w.heap.size w wr ∧ ∀ j, j < i → numOk (l.getD j 0) = true) (fun _ iv _ => l.length - (intOf iv).toNat)
    case atStart => exact ⟨0, by omega, rfl, by rw [List.take_zero, encL_nil]; exact World.ownsRow_nil _ _ _ _, Blk.new_at _ _ _ _ rfl, (Below.refl _ _).alloc (Nat.le_refl _) _, fun j hj => absurd hj (by omega)⟩
    case round =>
      obtain ⟨wo, rfl⟩ : ∃ wo : World, wo = wr := ⟨_, rfl⟩
      obtain ⟨i, hi, rfl, hown, hres, hbel, hok⟩ := hrel
      obtain ⟨A2, c2, rfl⟩ := own_shape hown
      have hz : w.heap.size < wo.heap.size := hres.lt
      have hlen := encL_len K (l.take i) (take_ok hok hi)
      rw [List.length_take] at hlen
      have k6 : wo.cell? ⟨w.heap.size, 0, none⟩ = some (.int .i64 0) := by rw [hres.cell]; rfl
      have k7 : wo.cell? ⟨w.heap.size, 1, none⟩ = some (.slice none 0 0) := by rw [hres.cell]; rfl
      have f0 := hres.frozen 0
      have f1 := hres.frozen 1
      by_cases hlt : i < l.length
      · obtain ⟨b, off, rfl, hbB, hcells⟩ := ints_cells hr (by omega)
        have k2 := (hbel.cell (p := ⟨b, off + i, none⟩) (by simp; omega)).trans (hcells i hlt)
        have hxm : l.getD i 0 ∈ l := by rw [List.getD_eq_getElem?_getD, List.getElem?_eq_getElem hlt]; exact List.getElem_mem _
        have hx64 := wf_i64 (hw _ hxm)
        cases hnum : numOk (l.getD i 0) with
        | false =>
          obtain ⟨rfl, rfl, rfl⟩ := HR.out.bad HN.out hl hlt hnum
          have hnn : l.getD i 0 < 1 ∨ (1 ≤ l.getD i 0 ∧ 1048576 < l.getD i 0) := by
            have : ¬ (1 ≤ l.getD i 0 ∧ l.getD i 0 ≤ 1048576) := fun h => by rw [numOk_iff.2 h] at hnum; cases hnum
            omega
          generalize l.getD i 0 = x at *
          have hR2 := (hres.set_ 0 (.int .i64 0)).set_ 1 (.slice none 0 0)
          have c0 : Hid (_ = some (Value.int .i64 0)) := Lib.hid ((hR2.cell 0).trans rfl)
          have c1 : Hid (_ = some (Value.slice none 0 0)) := Lib.hid ((hR2.cell 1).trans rfl)
          have HB := Lib.hid hbel
          clear hR2 hown hres hbel hok hcells hnum hxm hlen
          rcases hnn with h1 | ⟨h1, h2⟩
          · go_wp2_with fail
            exact bodyPost_ret (v := .tuple #[.agg #[.int .i64 0, .slice none 0 0], .int .i64 2]) (by have c0 := c0.out; have c1 := c1.out; simp [results, Try.results22, go_sem, c0, c1]) rfl ⟨_, rfl, isWords_nil _ _, (HB.out.setCell (p := ⟨w.heap.size, 0, none⟩) (Nat.le_refl _) _).setCell (p := ⟨w.heap.size, 1, none⟩) (Nat.le_refl _) _⟩
          · have h1' : ¬ x < 1 := by omega
            go_wp2_with fail
            exact bodyPost_ret (v := .tuple #[.agg #[.int .i64 0, .slice none 0 0], .int .i64 2]) (by have c0 := c0.out; have c1 := c1.out; simp [results, Try.results22, go_sem, c0, c1]) rfl ⟨_, rfl, isWords_nil _ _, (HB.out.setCell (p := ⟨w.heap.size, 0, none⟩) (Nat.le_refl _) _).setCell (p := ⟨w.heap.size, 1, none⟩) (Nat.le_refl _) _⟩
        | true =>
          have HStep := Lib.hid (encL_step K l i hlt)
          have hnn := numOk_iff.1 hnum
          obtain ⟨m, hmx⟩ : ∃ m : Nat, l.getD i 0 = m := ⟨(l.getD i 0).toNat, by omega⟩
          have HOK : Hid (∀ j, j < i + 1 → numOk (l.getD j 0) = true) := Lib.hid fun j hj => by
            rcases Nat.lt_or_eq_of_le (Nat.le_of_lt_succ hj) with g | g
            · exact hok j g
            · rw [g]; exact hnum
          rw [hmx] at k2 HStep hnn
          simp only [Int.toNat_natCast] at HStep
          have hm1 : 1 ≤ m := by omega
          have hm2 : m ≤ 1048576 := by omega
          have hm3 : ¬ (m : Int) < 1 := by omega
          have hkl := gamK_len (k := K) hm2
          have HO := Lib.hid hown
          have HRes := Lib.hid hres
          have HB := Lib.hid hbel
          have HC2 := Lib.hid (HC.out wo m hm1 hm2)
          generalize gamK K m = gm at *
          generalize hE : encL K (l.take i) = E at *
          generalize hgl : E.length = el at *
          have HGL := Lib.hid hgl
          clear hown hres hbel hok hcells hnum hxm hmx hx64 hE hgl hnn k6 k7 f0 f1
          go_wp2_with (go_at_call 50; refine (HC2.out).mono ?_; rintro e wd ⟨rfl, ⟨nd, rfl⟩⟩)
          go_loopw [6, 10] (fun ov cv wr => ∃ t : Nat, t ≤ gm.length ∧ wr.heap[wo.heap.size]? = some (.stringIter (txtB gm) t) ∧ wr.ownsRow (w.heap.size + 1) 4 1 ov (el + t) ((E ++ gm.take t).map Value.bool) ∧ Blk wr w.heap.size 24 #[.int .i64 0, .slice none 0 0] ∧ Below w.heap.size w wr) (fun _ _ wr => gm.length - wr.iterPos wo.heap.size)
          case atStart => exact ⟨0, by omega, World.iter_heap _ _ _, by rw [List.take_zero, List.append_nil]; exact (HO.out : (wo.drewN nd).ownsRow _ _ _ _ _ _).alloc _, Blk.alloc (w := wo.drewN nd) HRes.out _, Below.alloc (w := wo.drewN nd) (below_drewN HB.out nd) (by simp; omega) _⟩
          case round =>
            obtain ⟨t, ht, hit, hown, hres, hbel⟩ := hrel
            obtain ⟨A3, c3, rfl⟩ := own_shape hown
            have hpos := iterPos_of hit
            have hklt : wo.heap.size < wr.heap.size := (Array.getElem?_eq_some_iff.1 hit).1
            by_cases htl : t < gm.length
            · have hnx := fun ty => next_txt (P := Try.prog) hit htl ty
              have HO2 := Lib.hid (own_iterAt (p' := t + 1) hown hit)
              have HR2 := Lib.hid (Blk.iterAt (p' := t + 1) hres hit)
              have HI2 := Lib.hid (Lib.iterAt_heap wr wo.heap.size (txtB gm) t (t + 1) hit)
              have HB2 := Lib.hid (Lib.below_iterAt hbel (k := wo.heap.size) (by omega) (txtB gm) (t + 1))
              have HTk : Hid (E ++ gm.take (t + 1) = (E ++ gm.take t) ++ [gm.getD t false]) := Lib.hid (by rw [List.append_assoc, List.take_add_one, List.getElem?_eq_getElem htl, List.getD_eq_getElem?_getD, List.getElem?_eq_getElem htl]; rfl)
              have hsz := hbel.size
              have hsz2 : (wr.iterAt wo.heap.size (txtB gm) (t + 1)).heap.size = wr.heap.size := Lib.iterAt_size _ _ _ _
              generalize hW2 : wr.iterAt wo.heap.size (txtB gm) (t + 1) = W2 at *
              clear hown hres hbel hit hW2
              cases hb : gm.getD t false
              all_goals
                rw [hb] at hnx HTk
                simp only [Bool.false_eq_true, if_false, if_true] at hnx
                go_wp2_with (at_builtin; refine wpList_push el_bool rfl (.tmp 42) (.tmp 45) rfl (w.heap.size + 1) (.slice A3 (el + t) c3) (el + t) _ (HO2.out.alloc _) rfl wr.heap.size 1 _ rfl (new_cell hsz2.symm) rfl (by omega) (by omega) (by simp; omega) ?_; intro v' w3 hown3 hg3)
                have hres3 := (HR2.out.alloc _).grown hg3 (Ne.symm (own_ne HO2.out (by omega)))
                have hbel3 := below_push (HB2.out.alloc (by omega) _) (HO2.out.alloc _) (by omega) (by simp; omega) hg3
                have hia := fun o => (Below.heap_alloc W2 o wo.heap.size (by omega)).trans HI2.out
                have hit3 : w3.heap[wo.heap.size]? = some (.stringIter (txtB gm) (t + 1)) := by
                  refine (hg3.block wo.heap.size ?_ ?_).trans ?_
                  · simp; omega
                  · first | exact own_ne_iter (HO2.out.alloc (.cells #[.bool false] 4)) (hia _) | exact own_ne_iter (HO2.out.alloc (.cells #[.bool true] 4)) (hia _)
                  · exact hia _
                go_roundw
                case rel => exact ⟨t + 1, by omega, hit3, by rw [HTk.out, List.map_append]; exact hown3, hres3, hbel3⟩
                case measure => rw [iterPos_of hit3, hpos]; omega
            · obtain rfl : t = gm.length := by omega
              have hnx := fun ty => next_done (P := Try.prog) hit ty
              rw [List.take_length, ← HStep.out] at hown
              have HO3 := Lib.hid hown
              have HR3 := Lib.hid hres
              have HB3 := Lib.hid hbel
              clear hown hres hbel
              go_wp2_with fail
              go_roundw
              case rel => exact ⟨i + 1, by omega, by go_num, by rw [HStep.out, List.length_append, HGL.out, ← HStep.out]; exact HO3.out, HR3.out, HB3.out, HOK.out⟩
              case measure => simp [intOf]; omega
      · obtain rfl : i = l.length := by omega
        have hend := HR.out.all HN.out hl hok
        rw [List.take_length] at hown hlen
        have hib := own_bools hown (by omega)
        rcases hend with ⟨hE, rfl, rfl, rfl⟩ | ⟨hE, rfl, hws, rfl⟩
        · have hR2 := (hres.set_ 0 (.int .i64 0)).set_ 1 (.slice none 0 0)
          have c0 : Hid (_ = some (Value.int .i64 0)) := Lib.hid ((hR2.cell 0).trans rfl)
          have c1 : Hid (_ = some (Value.slice none 0 0)) := Lib.hid ((hR2.cell 1).trans rfl)
          have HB := Lib.hid hbel
          clear hown hib hres hbel hok hr hw hR2
          go_wp2_with fail
          exact bodyPost_ret (v := .tuple #[.agg #[.int .i64 0, .slice none 0 0], .int .i64 9]) (by have c0 := c0.out; have c1 := c1.out; simp [results, Try.results22, go_sem, c0, c1]) rfl ⟨_, rfl, isWords_nil _ _, (HB.out.setCell (p := ⟨w.heap.size, 0, none⟩) (Nat.le_refl _) _).setCell (p := ⟨w.heap.size, 1, none⟩) (Nat.le_refl _) _⟩
        · subst hws
          have hE' : ¬ 4096 < (encL K l).length := by omega
          have H1 := Lib.hid (refMake_any _ (encL K l) wo wo.heap.size (Nat.le_refl _) hib hE)
          have HRes := Lib.hid hres
          have HB := Lib.hid hbel
          clear hown hib hres hbel hok hr hw k6 k7 f0 f1
          clear HR HC
          generalize hws : packW (encL K l) (((encL K l).length + 63) / 64) (encL K l).length = ws at *
          clear hws
          go_wp2_with (go_at_call 52; refine (H1.out).mono ?_; rintro e w1 ⟨s1, rfl, ⟨A1, p1, rfl, h1⟩, hb1⟩; have H1' : Hid (IsWords w1 w1.heap.size (.slice A1 ws.length p1) ws) := Lib.hid ⟨A1, p1, rfl, h1⟩; clear h1; have hz1 := hb1.size; have hres1 := HRes.out.below hb1 hz; have k8 : w1.cell? ⟨w.heap.size, 0, none⟩ = some (.int .i64 0) := hres1.cell 0; have k9 : w1.cell? ⟨w.heap.size, 1, none⟩ = some (.slice none 0 0) := hres1.cell 1; have f8 := hres1.frozen 0; have f9 := hres1.frozen 1; have hz3 : w.heap.size < w1.heap.size := hres1.lt; have HR1 := Lib.hid hres1; clear hres1)
          have hR2 := (HR1.out.set_ 0 (.int .i64 (encL K l).length)).set_ 1 (.slice A1 ws.length p1)
          have c0 : Hid (_ = some (Value.int .i64 (encL K l).length)) := Lib.hid ((hR2.cell 0).trans rfl)
          have c1 : Hid (_ = some (Value.slice A1 ws.length p1)) := Lib.hid ((hR2.cell 1).trans rfl)
          have hw1 := (H1'.out.beside (p := ⟨w.heap.size, 0, none⟩) (HR1.out.cell 0) (by intro n e; simp at e) (.int .i64 (encL K l).length)).beside (p := ⟨w.heap.size, 1, none⟩) ((HR1.out.set_ 0 _).cell 1) (by intro n e; simp at e) (.slice A1 ws.length p1)
          clear hR2
          exact bodyPost_ret (v := .tuple #[.agg #[.int .i64 (encL K l).length, .slice A1 ws.length p1], .int .i64 0]) (by have c0 := c0.out; have c1 := c1.out; simp [results, Try.results22, go_sem, c0, c1]) rfl ⟨_, rfl, hw1.more (by simp), ((HB.out.trans (hb1.mono (Nat.le_of_lt hz))).setCell (p := ⟨w.heap.size, 0, none⟩) (Nat.le_refl _) _).setCell (p := ⟨w.heap.size, 1, none⟩) (Nat.le_refl _) _⟩
theorem refGamEncode_any (k : Int) (v : Value) (l : List Int) (n : Int) (ws : List Nat) (cc : Int) (w : World) (B : Nat) (hB : B ≤ w.heap.size) (hk : I64 k) (h : IsInts .i64 w B v l) (hR : EncR k l n ws cc) :
    Calls Try.prog 22 #[.int .i64 k, v] w (GivesRow n ws cc w) := by
  have hR' := hR
  rcases hR with ⟨hn, rfl, rfl, rfl⟩ | ⟨hn, hl, rfl, rfl, rfl⟩ | ⟨hn, hl, _⟩ | ⟨hn, hl, _⟩ | ⟨hn, hl, _⟩
  · exact refGamEncode_kind k v l w B hk h hn
  · exact refGamEncode_long k v l w B h hn hl
  · exact refGamEncode_some k v l n ws cc w B hB h hn hl hR'
  · exact refGamEncode_some k v l n ws cc w B hB h hn hl hR'
  · exact refGamEncode_some k v l n ws cc w B hB h hn hl hR'
end Go.Proofs.Yteblkbgcnoepnaa
