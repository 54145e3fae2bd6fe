/-
  Texts of one claim behind each other. Conditions: none of its own.
-/
import Derived.Test.YtdmfhpigchbcbaaMTopCover06
import Derived.Test.YtdmfhpigchbcbaaMTopCover09
import Derived.Test.YtdmfhpigchbcbaaMTopCover03
import Derived.Test.YtdmfhpigchbcbaaMTopCover00
/-
  Rows of words of the call's own that a row of structs holds: how they are kept while other rows grow, and what they read as. Conditions: none; nothing here names the program.
-/
namespace Go.Dam
open Go Go.RowKit
set_option linter.unusedVariables false
/-- Each of these slices is a row of words of the call's own. -/
def OwnWs (U : TypeId) (w : World) (base : Nat) (ss : List Value) (wss : List (List Nat)) : Prop :=
  ss.length = wss.length ∧ ∀ i, i < wss.length → w.ownsRow base U 1 (ss.getD i undef) (wss.getD i []).length ((wss.getD i []).map wordV) ∧ (∀ z ∈ wss.getD i [], z < 18446744073709551616) ∧ (wss.getD i []).length ≤ 1000
section
variable {U : TypeId} {w w' : World} {base : Nat} {ss : List Value} {wss : List (List Nat)}
theorem OwnWs.nil (U : TypeId) (w : World) (base : Nat) : OwnWs U w base [] [] := ⟨rfl, fun i h => absurd h (by simp)⟩
theorem OwnWs.keep (h : OwnWs U w base ss wss) (hk : ∀ v n xs, w.ownsRow base U 1 v n xs → w'.ownsRow base U 1 v n xs) : OwnWs U w' base ss wss :=
  ⟨h.1, fun i hi => ⟨hk _ _ _ (h.2 i hi).1, (h.2 i hi).2⟩⟩
theorem OwnWs.alloc (h : OwnWs U w base ss wss) (o : Obj) : OwnWs U (w.alloc o) base ss wss := h.keep fun v n xs k => k.alloc o
theorem OwnWs.drewN (h : OwnWs U w base ss wss) (n : Nat) : OwnWs U (w.drewN n) base ss wss := h.keep fun v n xs k => k
theorem OwnWs.below (h : OwnWs U w base ss wss) (hb : Below w.heap.size w w') : OwnWs U w' base ss wss := h.keep fun v n xs k => own_size k hb
theorem OwnWs.grown {base' size n : Nat} {to : TypeId} {v : Value} {xs : List Value} (h : OwnWs U w base ss wss) (ho : w.ownsRow base' to size v n xs) (hne : to ≠ U) (hg : w.grownBy w' v.ownBlock) : OwnWs U w' base ss wss :=
  h.keep fun u m ys k => (own_apart ho k hne).kept hg k
theorem own_far {base size n : Nat} {to e : TypeId} {v : Value} {xs : List Value} {cs : Array Value} {p : Addr} (h : w.ownsRow base e size v n xs) (hp : Blk w p.block to cs) (hne : to ≠ e) (x : Value) : (w.setCell p x).ownsRow base e size v n xs := by
  rcases h.2 with ⟨rfl, rfl⟩ | ⟨g, cap, cur, rfl, h1, h2, rest⟩
  · exact ⟨h.1, .inl ⟨rfl, rfl⟩⟩
  · refine ⟨h.1, .inr ⟨g, cap, cur, rfl, h1, ?_, rest⟩⟩
    have hg : g ≠ p.block := by
      rintro rfl
      unfold Blk at hp
      rw [h2] at hp
      injection hp with hp
      injection hp with _ ht
      exact hne ht.symm
    exact (Below.heap_setCell w p x g hg).trans h2
theorem OwnWs.far {to : TypeId} {cs : Array Value} {p : Addr} (h : OwnWs U w base ss wss) (hp : Blk w p.block to cs) (hne : to ≠ U) (x : Value) : OwnWs U (w.setCell p x) base ss wss := h.keep fun v n xs k => own_far k hp hne x
theorem getS_old {α : Type} (l : List α) (x d : α) {i : Nat} (h : i < l.length) : (l ++ [x]).getD i d = l.getD i d := by
  rw [List.getD_eq_getElem?_getD, List.getElem?_append_left h, ← List.getD_eq_getElem?_getD]
theorem getS_new {α : Type} (l : List α) (x d : α) {i : Nat} (h : i = l.length) : (l ++ [x]).getD i d = x := by
  subst h
  rw [List.getD_eq_getElem?_getD, List.getElem?_append_right (Nat.le_refl _), Nat.sub_self]; rfl
theorem OwnWs.push {s : Value} {ws : List Nat} (h : OwnWs U w base ss wss) (ho : w.ownsRow base U 1 s ws.length (ws.map wordV)) (hw : ∀ z ∈ ws, z < 18446744073709551616) (hl : ws.length ≤ 1000) : OwnWs U w base (ss ++ [s]) (wss ++ [ws]) := by
  refine ⟨by simp [h.1], fun i hi => ?_⟩
  rw [List.length_append, List.length_singleton] at hi
  rcases Nat.lt_or_ge i wss.length with g | g
  · rw [getS_old wss ws [] g, getS_old ss s undef (by rw [h.1]; exact g)]; exact h.2 i g
  · rw [getS_new wss ws [] (by omega), getS_new ss s undef (by rw [h.1]; omega)]; exact ⟨ho, hw, hl⟩
end
/-- The cells of rows of bits. -/
def lvCells (n : Int) : List Value → List Value
  | [] => []
  | s :: ss => .int .i64 n :: s :: lvCells n ss
theorem lvCells_nil (n : Int) : lvCells n [] = [] := rfl
theorem lvCells_len (n : Int) : ∀ ss, (lvCells n ss).length = ss.length * 2
  | [] => rfl
  | s :: ss => by rw [lvCells, List.length_cons, List.length_cons, lvCells_len n ss, List.length_cons]; omega
theorem lvCells_snoc (n : Int) (s : Value) : ∀ ss, lvCells n (ss ++ [s]) = lvCells n ss ++ [.int .i64 n, s]
  | [] => rfl
  | x :: ss => by rw [List.cons_append, lvCells, lvCells_snoc n s ss]; rfl
theorem lvCells_at (n : Int) : ∀ (ss : List Value) (i : Nat), i < ss.length → (lvCells n ss).getD (i * 2) undef = .int .i64 n ∧ (lvCells n ss).getD (i * 2 + 1) undef = ss.getD i undef
  | s :: ss, 0, _ => ⟨rfl, rfl⟩
  | s :: ss, i + 1, h => by
    have := lvCells_at n ss i (by simpa using h)
    rw [show (i + 1) * 2 = i * 2 + 1 + 1 from by omega, lvCells]
    simpa using this
attribute [irreducible] lvCells
/-- What the rows read as. -/
theorem rowsB_own {U E : TypeId} {w : World} {base base' k : Nat} {n : Int} {v : Value} {ss : List Value} {wss : List (List Nat)} (hn : I64 n) (hr : w.ownsRow base' E 2 v k (lvCells n ss)) (hk : wss.length = k) (hl : k ≤ 1000) (h : OwnWs U w base ss wss) : IsRowsB w w.heap.size v (wss.map fun ws => (n, ws)) := by
  subst hk
  have hat : ∀ i, i < (wss.map fun ws => (n, ws)).length → IsBits w w.heap.size (.agg #[(lvCells n ss).getD (i * 2) undef, (lvCells n ss).getD (i * 2 + 1) undef]) ((wss.map fun ws => (n, ws)).getD i (0, [])).1 ((wss.map fun ws => (n, ws)).getD i (0, [])).2 := fun i hi => by
    have hi' : i < wss.length := by simpa using hi
    obtain ⟨e1, e2⟩ := lvCells_at n ss i (by rw [h.1]; exact hi')
    have e3 : (wss.map fun ws => (n, ws)).getD i (0, []) = (n, wss.getD i []) := by
      rw [List.getD_eq_getElem?_getD, List.getElem?_map, List.getElem?_eq_getElem hi', List.getD_eq_getElem?_getD, List.getElem?_eq_getElem hi']; rfl
    rw [e1, e2, e3]
    obtain ⟨k1, k2, k3⟩ := h.2 i hi'
    exact ⟨_, rfl, hn, own_words k1 (show (wss.getD i []).length ≤ 140737488351232 by omega) k2⟩
  rcases hr.2 with ⟨rfl, h0⟩ | ⟨g, cap, cur, rfl, _, _, hnc, hcm, _⟩
  · exact ⟨none, 0, _, by rw [List.length_map, h0], by rw [List.length_map]; omega, by omega, by rw [List.length_map]; omega, ⟨by rw [List.length_map]; exact hr.1, fun hp => absurd hp (by rw [List.length_map]; omega)⟩, hat⟩
  · exact ⟨_, cap, _, by rw [List.length_map], by rw [List.length_map]; exact hnc, hcm, by rw [List.length_map]; omega, by rw [List.length_map]; exact Reads.of_own hr, hat⟩
end Go.Dam

/-
  A slice of words: the cell of each word, and its bound. Conditions: the slice reads as the words.
-/
namespace Go.Proofs.Ytdmfhpigchbcbaa
open Go Go.RowKit Go.Dam
set_option linter.unusedVariables false
theorem word_at {w : World} {B : Nat} {A : Option Addr} {ws : List Nat} (hr : Reads w B 1 A ws.length (ws.map wordV)) (hn : 0 < ws.length) :
    ∃ b off, A = some ⟨b, off, none⟩ ∧ b < B ∧ ∀ k, k < ws.length → w.cell? ⟨b, off + k, none⟩ = some (.int .u64 ((ws.getD k 0 : Nat) : Int)) := by
  obtain ⟨b, off, e, hb, hc⟩ := hr.addr hn
  refine ⟨b, off, e, hb, fun k hk => ?_⟩
  obtain ⟨u, hx, hu⟩ := hc k hk
  rw [hu, ← hx]
  simp [hk, wordV]
theorem word_lt {ws : List Nat} (hw : ∀ z ∈ ws, z < 18446744073709551616) (k : Nat) : ws.getD k 0 < 18446744073709551616 := by
  rw [List.getD_eq_getElem?_getD]
  rcases Nat.lt_or_ge k ws.length with h | h
  · rw [List.getElem?_eq_getElem h]; exact hw _ (List.getElem_mem _)
  · rw [List.getElem?_eq_none h]; simp

end Go.Proofs.Ytdmfhpigchbcbaa

/-
  Contract of bits.Make: the words of a list of bits, or that it is too long. Conditions: the list can be read as data.
-/
namespace Go.Proofs.Ytdmfhpigchbcbaa
open Go Go.RowKit Go.Dam
set_option linter.unusedVariables false

theorem el_u64 : El Try.prog 71 97 (.int .u64 0) 1 8 := ⟨Try.underlying71, by kernel_rfl, rfl, by decide⟩
/-- It returns a row of n bits in these words, and a code. -/
def GivesRow (n : Int) (ws : List Nat) (c : Int) (w : World) (e : Ending) (w' : World) : Prop :=
  ∃ s, e = .returned (.tuple #[.agg #[.int .i64 n, s], .int .i64 c]) ∧ IsWords w' w'.heap.size s ws ∧ Below w.heap.size w w'
theorem isWords_nil (w : World) (B : Nat) : IsWords w B (.slice none 0 0) [] := ⟨none, 0, rfl, Nat.le_refl _, Nat.zero_le _, Nat.zero_le _, Reads.none_, fun z hz => by cases hz⟩
/-- The block of the words while they are made. -/
def WBlk (w : World) (g : Nat) (ws : List Nat) : Prop := Blk w g 97 (ws.map wordV).toArray
theorem WBlk.cell {w : World} {g : Nat} {ws : List Nat} (h : WBlk w g ws) {k : Nat} (hk : k < ws.length) : w.cell? ⟨g, k, none⟩ = some (.int .u64 ((ws.getD k 0 : Nat) : Int)) := by
  rw [Blk.cell h]; simp [hk, wordV]
theorem WBlk.set {w : World} {g : Nat} {ws : List Nat} (h : WBlk w g ws) (k n : Nat) : WBlk (w.setCell ⟨g, k, none⟩ (.int .u64 n)) g (ws.set k n) := by
  have := Blk.set_ h k (.int .u64 n)
  unfold WBlk
  rw [List.map_set]
  simpa [wordV] using this
theorem WBlk.isWords {w : World} {g : Nat} {ws : List Nat} (h : WBlk w g ws) (hl : ws.length ≤ 140737488351232) (hw : ∀ z ∈ ws, z < 18446744073709551616) : IsWords w w.heap.size (.slice (some ⟨g, 0, none⟩) ws.length ws.length) ws := by
  refine ⟨_, _, rfl, Nat.le_refl _, by unfold maxLen; omega, hl, ⟨by simp, fun _ => ⟨_, rfl, Blk.lt h, fun j u hu => ?_⟩⟩, hw⟩
  have : (⟨g, 0, none⟩ : Addr).add j = ⟨g, j, none⟩ := by unfold Addr.add; split <;> simp_all
  rw [this, Blk.cell h, ← hu]; simp
set_option maxHeartbeats 400000 in
theorem make_long (v : Value) (l : List Bool) (w : World) (B : Nat) (h : IsBools w B v l) (hl : 4096 < l.length) :
    Calls Try.prog 24 #[v] w (GivesRow 0 [] 1 w) := by
  obtain ⟨A, c, rfl, hc, hm, hb, hr⟩ := h
  go_enter Try.func24, Try.ntmps24
  go_wp2_with fail
  exact bodyPost_ret (v := .tuple #[.agg #[.int .i64 0, .slice none 0 0], .int .i64 1]) (by simp [results, Try.results24, go_sem]) rfl ⟨_, rfl, isWords_nil _ _, (Below.refl _ _).alloc (Nat.le_refl _) _⟩
set_option maxHeartbeats 400000 in
theorem make_any (v : Value) (l : List Bool) (w : World) (B : Nat) (hB : B ≤ w.heap.size) (h : IsBools w B v l) (hl : l.length ≤ 4096) :
    Calls Try.prog 24 #[v] w (GivesRow l.length (packW l ((l.length + 63) / 64) l.length) 0 w) := by
  obtain ⟨A, c, rfl, hc, hm, hb, hr⟩ := h
  obtain ⟨W, hW⟩ : ∃ W, W = (l.length + 63) / 64 := ⟨_, rfl⟩
  rw [← hW]
  have hmk := fun w' => run_make1 el_u64 rfl (((l.length : Int) + 64 - 1) / 64) W (by omega) (by omega) (by omega) w'
  have hW1 : l.length ≤ 64 * W := by omega
  have hW2 : W ≤ 64 := by omega
  have HW := Lib.hid hW
  clear hW
  go_enter Try.func24, Try.ntmps24
  go_wp2_with fail
  go_loopw [22] (fun iv wr => ∃ i : Nat, i ≤ l.length ∧ iv = .int .i64 i ∧ WBlk wr (w.heap.size + 1) (packW l W i) ∧ Blk wr w.heap.size 73 #[.int .i64 0, .slice none 0 0] ∧
      Blk wr (w.heap.size + 1 + 1) 73 #[.int .i64 l.length, .slice (some ⟨w.heap.size + 1, 0, none⟩) W W] ∧ Below w.heap.size w wr) (fun iv _ => l.length - (intOf iv).toNat)
  case atStart =>
    refine ⟨0, by omega, rfl, ?_, ((Blk.new w _ _).alloc _).alloc _, Blk.new_at _ _ _ _ (by simp), (((Below.refl _ _).alloc (Nat.le_refl _) _).alloc (by simp) _).alloc (by simp; omega) _⟩
    rw [packW_0]
    have := (Blk.new_at (w.alloc (.cells #[.int .i64 0, .slice none 0 0] 73)) 97 (List.replicate W (Value.int .u64 0)).toArray (w.heap.size + 1) (by simp)).alloc (.cells #[.int .i64 l.length, .slice (some ⟨w.heap.size + 1, 0, none⟩) W W] 73)
    unfold WBlk
    rw [List.map_replicate]
    exact this
  case round =>
    obtain ⟨i, hi, rfl, hW, hR, hS, hbel⟩ := hrel
    have hz := hbel.size
    by_cases hlt : i < l.length
    · obtain ⟨b, off, rfl, hbB, hcells⟩ := bools_at hr (by omega)
      have k2 := (hbel.cell (p := ⟨b, off + i, none⟩) (by simp; omega)).trans (hcells i hlt)
      have k3 : wr.cell? ⟨w.heap.size + 1 + 1, 1, none⟩ = some (.slice (some ⟨w.heap.size + 1, 0, none⟩) W W) := by rw [hS.cell]; rfl
      have k4 := hW.cell (k := i / 64) (by rw [packW_length]; omega)
      have k5 := Blk.frozen hW (i / 64)
      have hcl := packW_clear l W i i (by omega) (Nat.le_refl _)
      have hxl : (packW l W i).getD (i / 64) 0 < 18446744073709551616 := word_lt (packW_lt l W i (by omega)) _
      have HS := Lib.hid hS
      have HR := Lib.hid hR
      have HB := Lib.hid hbel
      have hor := or_pow ((packW l W i).getD (i / 64) 0) (i % 64) hxl (by omega) hcl
      have hnext : l.getD i false = true → Hid (WBlk (wr.setCell ⟨w.heap.size + 1, i / 64, none⟩ (.int .u64 (((packW l W i).getD (i / 64) 0 + 2 ^ (i % 64) : Nat) : Int))) (w.heap.size + 1) (packW l W (i + 1))) := by
        intro hb
        rw [packW_yes hb]
        exact Lib.hid (hW.set (i / 64) _)
      have HW := Lib.hid hW
      clear hS hR hbel hcells hW hcl
      generalize hx : (packW l W i).getD (i / 64) 0 = x at *
      have HX := Lib.hid hx
      clear hx
      cases hb : l.getD i false with
      | true =>
        rw [hb] at k2
        have HN := hnext hb
        clear hnext hb
        go_wp2_with fail
        go_region
        go_wp2
        go_roundw
        case rel => exact ⟨i + 1, by omega, by go_num, HN.out, HR.out.far (by simp) _, HS.out.far (by simp) _, (HB.out.setCell (p := ⟨w.heap.size + 1, i / 64, none⟩) (Nat.le_succ _) _).drew⟩
        case measure => simp [intOf]; omega
      | false =>
        rw [hb] at k2
        have HN := Lib.hid (packW_no (W := W) hb)
        clear hnext hb
        go_wp2
        go_roundw
        case rel => exact ⟨i + 1, by omega, by go_num, by rw [HN.out]; exact HW.out, HR.out, HS.out, HB.out⟩
        case measure => simp [intOf]; omega
    · obtain rfl : i = l.length := by omega
      have k3 : wr.cell? ⟨w.heap.size + 1 + 1, 0, none⟩ = some (.int .i64 l.length) := by rw [hS.cell]; rfl
      have k4 : wr.cell? ⟨w.heap.size + 1 + 1, 1, none⟩ = some (.slice (some ⟨w.heap.size + 1, 0, none⟩) W W) := by rw [hS.cell]; rfl
      have k5 : wr.cell? ⟨w.heap.size, 0, none⟩ = some (.int .i64 0) := by rw [hR.cell]; rfl
      have k6 : wr.cell? ⟨w.heap.size, 1, none⟩ = some (.slice none 0 0) := by rw [hR.cell]; rfl
      have f0 := hR.frozen 0
      have f1 := hR.frozen 1
      have hR2 := (hR.set_ 0 (.int .i64 l.length)).set_ 1 (.slice (some ⟨w.heap.size + 1, 0, none⟩) W W)
      have c0 : Hid (_ = some (Value.int .i64 l.length)) := Lib.hid ((hR2.cell 0).trans rfl)
      have c1 : Hid (_ = some (Value.slice (some ⟨w.heap.size + 1, 0, none⟩) W W)) := Lib.hid ((hR2.cell 1).trans rfl)
      clear hR2
      have HW' := Lib.hid hW
      have HB := Lib.hid hbel
      clear hS hR hbel hW
      have HL : Hid ((packW l W l.length).length = W) := Lib.hid (packW_length _ _ _)
      have HT : Hid (∀ z ∈ packW l W l.length, z < 18446744073709551616) := Lib.hid (packW_lt l W l.length hW1)
      go_wp2
      refine bodyPost_ret (v := .tuple #[.agg #[.int .i64 l.length, .slice (some ⟨w.heap.size + 1, 0, none⟩) W W], .int .i64 0]) (by have c0 := c0.out; have c1 := c1.out; simp [results, Try.results24, go_sem, c0, c1]) rfl ⟨_, rfl, ?_, ?_⟩
      · have h1 : WBlk ((wr.setCell ⟨w.heap.size, 0, none⟩ (.int .i64 l.length)).setCell ⟨w.heap.size, 1, none⟩ (.slice (some ⟨w.heap.size + 1, 0, none⟩) W W)) (w.heap.size + 1) (packW l W l.length) :=
          Blk.far (Blk.far HW'.out (p := ⟨w.heap.size, 0, none⟩) (by simp) _) (p := ⟨w.heap.size, 1, none⟩) (by simp) _
        have h2 := h1.isWords (by rw [HL.out]; omega) HT.out
        rwa [HL.out] at h2
      · exact (HB.out.setCell (p := ⟨w.heap.size, 0, none⟩) (Nat.le_refl _) _).setCell (p := ⟨w.heap.size, 1, none⟩) (Nat.le_refl _) _
end Go.Proofs.Ytdmfhpigchbcbaa
