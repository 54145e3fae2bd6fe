/-
  Contract of gam.Encode: the codes of a list's numbers as a row of bits, or why there are none. Conditions: the list can be read as data.
-/
import Derived.Test.YteblkbgcnoepnaaGamCost
import Derived.Test.YteblkbgcnoepnaaRefBitsMake
import Derived.Test.YteblkbgcnoepnaaIntRows
import Derived.Test.YteblkbgcnoepnaaPush
namespace Go.Dam
open Go Go.RowKit
set_option linter.unusedVariables false
theorem EncR.bad {k : Int} {l : List Int} {n : Int} {ws : List Nat} {cc : Int} (h : EncR k l n ws cc) (hk : kinded k) (hl : l.length ≤ 300) {i : Nat} (hi : i < l.length) (hb : numOk (l.getD i 0) = false) : n = 0 ∧ ws = [] ∧ cc = 2 := by
  rcases h with ⟨h, _⟩ | ⟨_, h, _⟩ | ⟨_, _, _, h⟩ | ⟨_, _, h, _⟩ | ⟨_, _, h, _⟩
  · exact absurd hk h
  · omega
  · exact h
  · rw [h i hi] at hb; cases hb
  · rw [h i hi] at hb; cases hb
theorem EncR.all {k : Int} {l : List Int} {n : Int} {ws : List Nat} {cc : Int} (h : EncR k l n ws cc) (hk : kinded k) (hl : l.length ≤ 300) (ha : ∀ j, j < l.length → numOk (l.getD j 0) = true) :
    (4096 < (encL k l).length ∧ n = 0 ∧ ws = [] ∧ cc = 9) ∨ ((encL k l).length ≤ 4096 ∧ n = (encL k l).length ∧ ws = packW (encL k l) (((encL k l).length + 63) / 64) (encL k l).length ∧ cc = 0) := by
  rcases h with ⟨h, _⟩ | ⟨_, h, _⟩ | ⟨_, _, ⟨i, hi, hb, _⟩, _⟩ | ⟨_, _, _, h⟩ | ⟨_, _, _, h⟩
  · exact absurd hk h
  · omega
  · rw [ha i hi] at hb; cases hb
  · exact .inl h
  · exact .inr h
theorem IsWords.beside {w : World} {B : Nat} {v : Value} {ws : List Nat} (h : IsWords w B v ws) {p : Addr} {y : Value} (hp : w.cell? p = some y) (hy : ∀ n, y ≠ .int .u64 n) (x : Value) : IsWords (w.setCell p x) B v ws := by
  obtain ⟨A, c, rfl, h1, h2, h5, ⟨h3, h3'⟩, h4⟩ := h
  refine ⟨A, c, rfl, h1, h2, h5, ⟨h3, fun h0 => ?_⟩, h4⟩
  obtain ⟨ad, rfl, hB, hc⟩ := h3' h0
  refine ⟨ad, rfl, hB, fun j u hu => ?_⟩
  have hcu := hc j u hu
  rw [World.cell?_setCell_other, hcu]
  intro e
  rw [← e, hp] at hcu
  have hm := List.mem_of_getElem? hu
  obtain ⟨z, _, rfl⟩ := List.mem_map.1 hm
  exact hy _ (Option.some.inj hcu)
theorem gamK_pos {k : Int} {n : Nat} (hk : kinded k) (h1 : 1 ≤ n) (h2 : n ≤ 1048576) : 1 ≤ (gamK k n).length := by
  have hb := bitLen_pos h1 (by omega)
  have hb2 := bitLen_21 h2
  rcases hk with rfl | rfl
  · rw [gamK_1 (by decide), List.length_append, List.length_replicate, binN_length]; omega
  · have := bitLen_pos hb (by omega)
    rw [gamK_2, gam1_eq, gamK_1 (by decide), List.length_append, List.length_append, List.length_replicate, binN_length, binN_length]; omega
end Go.Dam
namespace Go.Proofs.Yteblkbgcnoepnaa
open Go Go.RowKit Go.Dam
set_option linter.unusedVariables false
set_option maxRecDepth 100000 in
set_option maxHeartbeats 400000 in
theorem gamEncode_kind (k : Int) (v : Value) (l : List Int) (w : World) (B : Nat) (hk : I64 k) (h : IsInts .i64 w B v l) (hn : ¬ kinded k) :
    Calls Try.prog 21 #[.int .i64 k, v] w (GivesRow 0 [] 3 w) := by
  have HK := Lib.hid fun W => kinded_no k W hn hk
  obtain ⟨A, c, rfl, hc, hm, hb, hr, hw⟩ := h
  clear hn hr hw
  unfold I64 at hk
  go_enter Try.func21, Try.ntmps21
  go_wp2_with (go_at_call 48; refine (HK.out _).mono ?_; rintro e w' ⟨rfl, rfl⟩)
  exact bodyPost_ret (v := .tuple #[.agg #[.int .i64 0, .slice none 0 0], .int .i64 3]) (by simp [results, Try.results21, go_sem]) rfl ⟨_, rfl, isWords_nil _ _, ((Below.refl _ _).alloc (Nat.le_refl _) _)⟩
set_option maxRecDepth 100000 in
set_option maxHeartbeats 400000 in
theorem gamEncode_long (k : Int) (v : Value) (l : List Int) (w : World) (B : Nat) (h : IsInts .i64 w B v l) (hn : kinded k) (hl : 300 < l.length) :
    Calls Try.prog 21 #[.int .i64 k, v] w (GivesRow 0 [] 1 w) := by
  have HK := Lib.hid fun W => kinded_yes k W hn
  obtain ⟨A, c, rfl, hc, hm, hb, hr, hw⟩ := h
  clear hn hr hw
  go_enter Try.func21, Try.ntmps21
  go_wp2_with (go_at_call 48; refine (HK.out _).mono ?_; rintro e w' ⟨rfl, rfl⟩)
  exact bodyPost_ret (v := .tuple #[.agg #[.int .i64 0, .slice none 0 0], .int .i64 1]) (by simp [results, Try.results21, go_sem]) rfl ⟨_, rfl, isWords_nil _ _, ((Below.refl _ _).alloc (Nat.le_refl _) _)⟩
set_option maxRecDepth 100000 in
set_option maxHeartbeats 1000000 in
theorem gamEncode_some (k : Int) (v : Value) (l : List Int) (n : Int) (ws : List Nat) (cc : Int) (w : World) (B : Nat) (hB : B ≤ w.heap.size) (h : IsInts .i64 w B v l) (hn : kinded k) (hl : l.length ≤ 300) (hR : EncR k l n ws cc) :
    Calls Try.prog 21 #[.int .i64 k, v] w (GivesRow n ws cc w) := by
  have HK := Lib.hid fun W => kinded_yes k W hn
  have HC := Lib.hid fun W m h1 h2 => gamCode_all k m W (by rcases hn with rfl | rfl <;> (unfold I64; omega)) h1 h2
  have HN := Lib.hid hn
  have HR := Lib.hid hR
  obtain ⟨A, c, rfl, hc, hm, hb, hr, hw⟩ := h
  clear hn hR
  go_enter Try.func21, Try.ntmps21
  go_wp2_with (go_at_call 48; refine (HK.out _).mono ?_; rintro e w' ⟨rfl, rfl⟩)
  go_loopw [6, 23] (fun ov iv wr => ∃ i : Nat, i ≤ l.length ∧ iv = .int .i64 i ∧ wr.ownsRow (w.heap.size + 1) 4 1 ov (encL k (l.take i)).length ((encL k (l.take i)).map Value.bool) ∧ Blk wr w.heap.size 24 #[.int .i64 0, .slice none 0 0] ∧ Below w.heap.size w wr ∧ ∀ j, j < i → numOk (l.getD j 0) = true) (fun _ iv _ => l.length - (intOf iv).toNat)
  case atStart => exact ⟨0, by omega, rfl, by rw [List.take_zero, encL_nil]; exact World.ownsRow_nil _ _ _ _, Blk.new_at _ _ _ _ rfl, (Below.refl _ _).alloc (Nat.le_refl _) _, fun j hj => absurd hj (by omega)⟩
  case round =>
    obtain ⟨wo, rfl⟩ : ∃ wo : World, wo = wr := ⟨_, rfl⟩
    obtain ⟨i, hi, rfl, hown, hres, hbel, hok⟩ := hrel
    obtain ⟨A2, c2, rfl⟩ := own_shape hown
    have hz : w.heap.size < wo.heap.size := hres.lt
    have hlen : (encL k (l.take i)).length ≤ 100 * i := by
      have := encL_len k (l.take i) (take_ok hok hi)
      rw [List.length_take] at this
      omega
    by_cases hlt : i < l.length
    · obtain ⟨b, off, rfl, hbB, hcells⟩ := ints_cells hr (by omega)
      have k2 := (hbel.cell (p := ⟨b, off + i, none⟩) (by simp; omega)).trans (hcells i hlt)
      have hxm : l.getD i 0 ∈ l := by rw [List.getD_eq_getElem?_getD, List.getElem?_eq_getElem hlt]; exact List.getElem_mem _
      have hx64 := wf_i64 (hw _ hxm)
      have HStep := Lib.hid (encL_step k l i hlt)
      cases hnum : numOk (l.getD i 0) with
      | false =>
        obtain ⟨rfl, rfl, rfl⟩ := HR.out.bad HN.out hl hlt hnum
        have hnn : l.getD i 0 < 1 ∨ (1 ≤ l.getD i 0 ∧ 1048576 < l.getD i 0) := by
          have : ¬ (1 ≤ l.getD i 0 ∧ l.getD i 0 ≤ 1048576) := fun h => by rw [numOk_iff.2 h] at hnum; cases hnum
          omega
        generalize l.getD i 0 = x at *
        have k6 : wo.cell? ⟨w.heap.size, 0, none⟩ = some (.int .i64 0) := by rw [hres.cell]; rfl
        have k7 : wo.cell? ⟨w.heap.size, 1, none⟩ = some (.slice none 0 0) := by rw [hres.cell]; rfl
        have f0 := hres.frozen 0
        have f1 := hres.frozen 1
        have hR2 := (hres.set_ 0 (.int .i64 0)).set_ 1 (.slice none 0 0)
        have c0 : Hid (_ = some (Value.int .i64 0)) := Lib.hid ((hR2.cell 0).trans rfl)
        have c1 : Hid (_ = some (Value.slice none 0 0)) := Lib.hid ((hR2.cell 1).trans rfl)
        have HB := Lib.hid hbel
        clear hR2 hown hres hbel hok hcells hnum hxm HStep hlen
        rcases hnn with h1 | ⟨h1, h2⟩
        · go_wp2_with fail
          exact bodyPost_ret (v := .tuple #[.agg #[.int .i64 0, .slice none 0 0], .int .i64 2]) (by have c0 := c0.out; have c1 := c1.out; simp [results, Try.results21, go_sem, c0, c1]) rfl ⟨_, rfl, isWords_nil _ _, (HB.out.setCell (p := ⟨w.heap.size, 0, none⟩) (Nat.le_refl _) _).setCell (p := ⟨w.heap.size, 1, none⟩) (Nat.le_refl _) _⟩
        · have h1' : ¬ x < 1 := by omega
          go_wp2_with fail
          exact bodyPost_ret (v := .tuple #[.agg #[.int .i64 0, .slice none 0 0], .int .i64 2]) (by have c0 := c0.out; have c1 := c1.out; simp [results, Try.results21, go_sem, c0, c1]) rfl ⟨_, rfl, isWords_nil _ _, (HB.out.setCell (p := ⟨w.heap.size, 0, none⟩) (Nat.le_refl _) _).setCell (p := ⟨w.heap.size, 1, none⟩) (Nat.le_refl _) _⟩
      | true =>
        have hnn := numOk_iff.1 hnum
        obtain ⟨m, hmx⟩ : ∃ m : Nat, l.getD i 0 = m := ⟨(l.getD i 0).toNat, by omega⟩
        have HOK : Hid (∀ j, j < i + 1 → numOk (l.getD j 0) = true) := Lib.hid fun j hj => by
          rcases Nat.lt_or_eq_of_le (Nat.le_of_lt_succ hj) with g | g
          · exact hok j g
          · rw [g]; exact hnum
        rw [hmx] at k2 HStep hnn
        simp only [Int.toNat_natCast] at HStep
        have hm1 : 1 ≤ m := by omega
        have hm2 : m ≤ 1048576 := by omega
        have hm3 : ¬ (m : Int) < 1 := by omega
        have hpos := gamK_pos HN.out hm1 hm2
        have hkl := gamK_len (k := k) hm2
        have HO := Lib.hid hown
        have HRes := Lib.hid hres
        have HB := Lib.hid hbel
        have HC2 := Lib.hid (HC.out wo m hm1 hm2)
        generalize gamK k m = gm at *
        generalize hE : encL k (l.take i) = E at *
        generalize hgl : E.length = el at *
        have HGL := Lib.hid hgl
        clear hown hres hbel hok hcells hnum hxm hmx hx64 hE hgl hnn
        have HOne : Hid (∀ u ∈ gm.map Value.bool, u.oneCell' = true) := Lib.hid fun u hu => by obtain ⟨z, _, rfl⟩ := List.mem_map.1 hu; rfl
        have HNews : Hid (∀ (w1 : World) (g cu : Nat), w1.ownsRow wo.heap.size 4 1 (.slice (some ⟨g, 0, none⟩) gm.length cu) gm.length (gm.map Value.bool) → ∀ j x, (gm.map Value.bool)[j]? = some x → w1.cell? ((⟨g, 0, none⟩ : Addr).add j) = some x) := Lib.hid fun w1 g cu hu j x hx => by
          rw [add_zero_addr, hu.cellAt j (by
            rcases Nat.lt_or_ge j (gm.length * 1) with h | h
            · exact h
            · rw [List.getElem?_eq_none (by simpa using h)] at hx; cases hx)]
          exact hx
        have HGM : Hid ((gm.map Value.bool).length = gm.length * 1) := Lib.hid (by simp)
        go_wp2_with (first
          | (go_at_call 49; refine (HC2.out).mono ?_; rintro e w1 ⟨u, rfl, hu, hb1⟩; obtain ⟨g, cu, rfl⟩ := Go.Joins.ownsRow_form hu (by omega); have hov := own_size HO.out hb1; have hz1 := hb1.size; have hnews := HNews.out w1 g cu hu)
          | (at_builtin; refine wpList_pushM el_bool rfl (.tmp 34) (.tmp 37) rfl (w.heap.size + 1) (.slice A2 el c2) el _ hov rfl ⟨g, 0, none⟩ gm.length cu (gm.map Value.bool) rfl HGM.out hnews HOne.out (by omega) (by omega) (by omega) ?_; intro v' w2 hown2 hg2 hl2))
        have hres1 := (HRes.out.below hb1 hz).grown hg2 (Ne.symm (own_ne hov (by omega)))
        have hbel2 := below_push (HB.out.trans (hb1.mono (Nat.le_of_lt hz))) hov (by omega) (by omega) hg2
        rw [← List.map_append, ← HStep.out] at hown2
        go_roundw
        case rel => exact ⟨i + 1, by omega, by go_num, by rw [HStep.out, List.length_append, HGL.out, ← HStep.out]; exact hown2, hres1, hbel2, HOK.out⟩
        case measure => simp [intOf]; omega
    · obtain rfl : i = l.length := by omega
      have hend := HR.out.all HN.out hl hok
      have k6 : wo.cell? ⟨w.heap.size, 0, none⟩ = some (.int .i64 0) := by rw [hres.cell]; rfl
      have k7 : wo.cell? ⟨w.heap.size, 1, none⟩ = some (.slice none 0 0) := by rw [hres.cell]; rfl
      have f0 := hres.frozen 0
      have f1 := hres.frozen 1
      rw [List.take_length] at hown hlen
      have hib := own_bools hown (by omega)
      rcases hend with ⟨hE, rfl, rfl, rfl⟩ | ⟨hE, rfl, hws, rfl⟩
      · have H1 := Lib.hid (make_long _ (encL k l) wo wo.heap.size hib hE)
        have HRes := Lib.hid hres
        have HB := Lib.hid hbel
        clear hown hib hres hbel hok hr hw k6 k7 f0 f1
        go_wp2_with (go_at_call 51; refine (H1.out).mono ?_; rintro e w1 ⟨s1, rfl, ⟨A1, p1, rfl, h1⟩, hb1⟩; have hz1 := hb1.size; have hres1 := HRes.out.below hb1 hz; have k8 : w1.cell? ⟨w.heap.size, 0, none⟩ = some (.int .i64 0) := hres1.cell 0; have k9 : w1.cell? ⟨w.heap.size, 1, none⟩ = some (.slice none 0 0) := hres1.cell 1; have f8 := hres1.frozen 0; have f9 := hres1.frozen 1; have hz3 : w.heap.size < w1.heap.size := hres1.lt; have HR1 := Lib.hid hres1; clear hres1)
        have hR2 := ((HR1.out.set_ 0 (.int .i64 0)).set_ 1 (.slice none 0 0)).alloc (.cells #[.int .i64 0, .slice A1 0 p1] 24)
        have c0 : Hid (_ = some (Value.int .i64 0)) := Lib.hid ((hR2.cell 0).trans rfl)
        have c1 : Hid (_ = some (Value.slice none 0 0)) := Lib.hid ((hR2.cell 1).trans rfl)
        clear hR2
        exact bodyPost_ret (v := .tuple #[.agg #[.int .i64 0, .slice none 0 0], .int .i64 9]) (by have c0 := c0.out; have c1 := c1.out; simp [results, Try.results21, go_sem, c0, c1]) rfl ⟨_, rfl, isWords_nil _ _, (((HB.out.trans (hb1.mono (Nat.le_of_lt hz))).setCell (p := ⟨w.heap.size, 0, none⟩) (Nat.le_refl _) _).setCell (p := ⟨w.heap.size, 1, none⟩) (Nat.le_refl _) _).alloc (by simp; omega) _⟩
      · subst hws
        have H1 := Lib.hid (make_any _ (encL k l) wo wo.heap.size (Nat.le_refl _) hib hE)
        have HRes := Lib.hid hres
        have HB := Lib.hid hbel
        clear hown hib hres hbel hok hr hw k6 k7 f0 f1
        clear HR HC HK
        generalize hws : packW (encL k l) (((encL k l).length + 63) / 64) (encL k l).length = ws at *
        clear hws
        go_wp2_with (go_at_call 51; refine (H1.out).mono ?_; rintro e w1 ⟨s1, rfl, ⟨A1, p1, rfl, h1⟩, hb1⟩; have H1' : Hid (IsWords w1 w1.heap.size (.slice A1 ws.length p1) ws) := Lib.hid ⟨A1, p1, rfl, h1⟩; clear h1; have hz1 := hb1.size; have hres1 := HRes.out.below hb1 hz; have k8 : w1.cell? ⟨w.heap.size, 0, none⟩ = some (.int .i64 0) := hres1.cell 0; have k9 : w1.cell? ⟨w.heap.size, 1, none⟩ = some (.slice none 0 0) := hres1.cell 1; have f8 := hres1.frozen 0; have f9 := hres1.frozen 1; have hz3 : w.heap.size < w1.heap.size := hres1.lt; have HR1 := Lib.hid hres1; clear hres1)
        have hR2 := ((HR1.out.set_ 0 (.int .i64 (encL k l).length)).set_ 1 (.slice A1 ws.length p1)).alloc (.cells #[.int .i64 (encL k l).length, .slice A1 ws.length p1] 24)
        have c0 : Hid (_ = some (Value.int .i64 (encL k l).length)) := Lib.hid ((hR2.cell 0).trans rfl)
        have c1 : Hid (_ = some (Value.slice A1 ws.length p1)) := Lib.hid ((hR2.cell 1).trans rfl)
        have hw1 := ((H1'.out.beside (p := ⟨w.heap.size, 0, none⟩) (HR1.out.cell 0) (by intro n e; simp at e) (.int .i64 (encL k l).length)).beside (p := ⟨w.heap.size, 1, none⟩) ((HR1.out.set_ 0 _).cell 1) (by intro n e; simp at e) (.slice A1 ws.length p1)).below ((Below.refl _ _).alloc (by simp) (.cells #[.int .i64 (encL k l).length, .slice A1 ws.length p1] 24))
        clear hR2
        exact bodyPost_ret (v := .tuple #[.agg #[.int .i64 (encL k l).length, .slice A1 ws.length p1], .int .i64 0]) (by have c0 := c0.out; have c1 := c1.out; simp [results, Try.results21, go_sem, c0, c1]) rfl ⟨_, rfl, hw1.more (by simp), (((HB.out.trans (hb1.mono (Nat.le_of_lt hz))).setCell (p := ⟨w.heap.size, 0, none⟩) (Nat.le_refl _) _).setCell (p := ⟨w.heap.size, 1, none⟩) (Nat.le_refl _) _).alloc (by simp; omega) _⟩
theorem gamEncode_any (k : Int) (v : Value) (l : List Int) (n : Int) (ws : List Nat) (cc : Int) (w : World) (B : Nat) (hB : B ≤ w.heap.size) (hk : I64 k) (h : IsInts .i64 w B v l) (hR : EncR k l n ws cc) :
    Calls Try.prog 21 #[.int .i64 k, v] w (GivesRow n ws cc w) := by
  have hR' := hR
  rcases hR with ⟨hn, rfl, rfl, rfl⟩ | ⟨hn, hl, rfl, rfl, rfl⟩ | ⟨hn, hl, _⟩ | ⟨hn, hl, _⟩ | ⟨hn, hl, _⟩
  · exact gamEncode_kind k v l w B hk h hn
  · exact gamEncode_long k v l w B h hn hl
  · exact gamEncode_some k v l n ws cc w B hB h hn hl hR'
  · exact gamEncode_some k v l n ws cc w B hB h hn hl hR'
  · exact gamEncode_some k v l n ws cc w B hB h hn hl hR'
end Go.Proofs.Yteblkbgcnoepnaa
