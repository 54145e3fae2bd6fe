/-
  Contract of the reference's RmqTree (a closure that calls itself): the list it returns is the tree of first greatest places. Conditions: the argument is a list of ints.
-/
import Derived.Test.YtiflelifkjfpdaaRmqTree
import Derived.Test.YtiflelifkjfpdaaRmqTop
import Derived.Laws.EntriesVeiled
namespace Go.Dam
open Go Go.RowKit
set_option linter.unusedVariables false
/-- All but block g is kept. -/
structure SameBut (g : Nat) (w w' : World) : Prop where
  size : w'.heap.size = w.heap.size
  cell : ∀ p : Addr, p.block ≠ g → w'.cell? p = w.cell? p
  below : Below g w w'
theorem SameBut.refl (g : Nat) (w : World) : SameBut g w w := ⟨rfl, fun _ _ => rfl, Below.refl _ _⟩
theorem SameBut.trans {g : Nat} {a b c : World} (h : SameBut g a b) (k : SameBut g b c) : SameBut g a c :=
  ⟨k.size.trans h.size, fun p hp => (k.cell p hp).trans (h.cell p hp), h.below.trans k.below⟩
theorem SameBut.set {g : Nat} {a b : World} (h : SameBut g a b) (i : Nat) (u : Value) : SameBut g a (b.setCell ⟨g, i, none⟩ u) :=
  ⟨by simpa using h.size, fun p hp => (World.cell?_setCell_other b ⟨g, i, none⟩ p u (fun e => hp (by rw [← e]))).trans (h.cell p hp), h.below.setCell (p := ⟨g, i, none⟩) (Nat.le_refl _) u⟩
end Go.Dam
namespace Go.Proofs.Ytiflelifkjfpdaa
open Go Go.RowKit Go.Dam
set_option linter.unusedVariables false
theorem SameBut.ofDrawn {g : Nat} {a b : World} (h : Drawn a b) : SameBut g a b := ⟨h.size, fun p _ => h.cell p, h.below g⟩
theorem drawn_iblk' {a b : World} (h : Drawn a b) {k : IntKind} {t : TypeId} {g : Nat} {l : List Int} (hb : IBlk k t a g l) : IBlk k t b g l := by
  obtain ⟨m, rfl⟩ := h; exact hb
set_option maxHeartbeats 1000000 in
theorem treePart_any (v : Value) (l : List Int) (B g ba bo bp : Nat) (hl : l.length ≤ 300) (hB : B ≤ g) (h1 : ba ≠ g) (h2 : bo ≠ g) (h3 : bp ≠ g) (d : Nat) :
    ∀ (a e : Nat) (p : Int) (o : List Int) (W : World), e - a ≤ d → e ≤ l.length → IsInts .i64 W B v l → o.length = l.length → IBlk .i64 3 W g o →
      W.cell? ⟨ba, 0, none⟩ = some v → W.cell? ⟨bo, 0, none⟩ = some (.slice (some ⟨g, 0, none⟩) l.length l.length) →
      W.cell? ⟨bp, 0, none⟩ = some (.func (.func 42) #[] #[.pointer (some ⟨ba, 0, none⟩), .pointer (some ⟨bo, 0, none⟩), .pointer (some ⟨bp, 0, none⟩)]) →
      Calls Try.prog 42 #[.int .i64 a, .int .i64 ((e : Int) - 1), .int .i64 p, .pointer (some ⟨ba, 0, none⟩), .pointer (some ⟨bo, 0, none⟩), .pointer (some ⟨bp, 0, none⟩)] W
        fun en W' => en = .returned (.tuple #[]) ∧ ∃ o', o'.length = l.length ∧ IBlk .i64 3 W' g o' ∧ SameBut g W W' ∧ Tr (fun k => l.getD k 0) (fun k => o'.getD k 0) a e p ∧ ∀ x, x < a ∨ e ≤ x → o'.getD x 0 = o.getD x 0 := by
  induction d with
  | zero =>
    intro a e p o W hd he hi hol hblk c1 c2 c3
    have t0 : decide ((e : Int) - 1 < (a : Int)) = true := by simp; omega
    have HBlk := Lib.hid hblk
    clear hi hblk
    go_enter Try.func42, Try.ntmps42
    go_wp2_with fail
    refine bodyPost_ret (v := .tuple #[]) (by simp [results, Try.results42, go_sem]) rfl ⟨rfl, o, hol, HBlk.out, SameBut.refl _ _, .nil (by omega), fun x _ => rfl⟩
  | succ d ih =>
    intro a e p o W hd he hi hol hblk c1 c2 c3
    by_cases hlt : a < e
    · have t0 : decide ((e : Int) - 1 < (a : Int)) = false := by simp; omega
      have hsub : ((e - 1 : Nat) : Int) = (e : Int) - 1 := by omega
      have HT := topOf_any v l a (e - 1) W B hi (by omega) (by omega)
      rw [hsub] at HT
      have htop := topF_is (fun k => l.getD k 0) a (e - 1 - a)
      rw [show a + (e - 1 - a) + 1 = e from by omega] at htop
      have hlo := htop.lo
      have hhi := htop.hi
      generalize topF (fun k => l.getD k 0) a (e - 1 - a) = t at *
      have HT := Lib.hid HT
      have HTop := Lib.hid htop
      have HI := Lib.hid hi
      have IH1 := Lib.hid (fun o W => ih a t (t : Int) o W (by omega) (by omega))
      have IH2 := ih (t + 1) e (t : Int)
      rw [show ((t + 1 : Nat) : Int) = (t : Int) + 1 from rfl] at IH2
      have IH2 := Lib.hid (fun o W => IH2 o W (by omega) he)
      have HBlk := Lib.hid hblk
      have hto : t < o.length := by omega
      obtain ⟨A, c, rfl, _⟩ := hi
      clear hsub htop hblk ih
      go_enter Try.func42, Try.ntmps42
      go_wp2_with (first
        | (go_at_call 41; refine (HT.out).mono ?_; rintro en w1 ⟨rfl, hd1⟩; have d1 := (hd1.cell ⟨ba, 0, none⟩).trans c1; have d2 := (hd1.cell ⟨bo, 0, none⟩).trans c2; have d3 := (hd1.cell ⟨bp, 0, none⟩).trans c3; have HB1 := Lib.hid (drawn_iblk' hd1 HBlk.out); have k1 := HB1.out.cell hto; have f1 := HB1.out.frozen t; have S1 := Lib.hid ((SameBut.ofDrawn (g := g) hd1).set t (.int .i64 p)))
        | (go_at_call 42; (with_reducible refine (IH1.out (o.set t p) (w1.setCell ⟨g, t, none⟩ (.int .i64 p)) (HI.out.below (S1.out.below.mono hB)) (by rw [List.length_set]; exact hol) (HB1.out.set t p) ((S1.out.cell ⟨ba, 0, none⟩ h1).trans c1) ((S1.out.cell ⟨bo, 0, none⟩ h2).trans c2) ((S1.out.cell ⟨bp, 0, none⟩ h3).trans c3)).mono ?_); rintro en w2 ⟨rfl, o2, ho2, hb2, hs2, ht2, hx2⟩; have S2 := Lib.hid (S1.out.trans hs2); have e1 := (S2.out.cell ⟨ba, 0, none⟩ h1).trans c1; have e2 := (S2.out.cell ⟨bo, 0, none⟩ h2).trans c2; have e3 := (S2.out.cell ⟨bp, 0, none⟩ h3).trans c3; have HB2 := Lib.hid hb2; have HT2 := Lib.hid ht2; have HX2 := Lib.hid hx2; clear hs2 hb2 ht2 hx2)
        | (go_at_call 42; (with_reducible refine (IH2.out o2 w2 (HI.out.below (S2.out.below.mono hB)) ho2 HB2.out e1 e2 e3).mono ?_); rintro en w3 ⟨rfl, o3, ho3, hb3, hs3, ht3, hx3⟩))
      have hop : (o.set t p).getD t 0 = p := set_getD_same hto p
      have htr : Tr (fun k => l.getD k 0) (fun k => o3.getD k 0) a e p := by
        refine .node HTop.out ?_ (HT2.out.congr fun x _ hx => hx3 x (by omega)) ht3
        show o3.getD t 0 = p
        rw [hx3 t (by omega), HX2.out t (by omega), hop]
      have hout : ∀ x, x < a ∨ e ≤ x → o3.getD x 0 = o.getD x 0 := fun x hx => by
        rw [hx3 x (by omega), HX2.out x (by omega)]
        exact set_getD_ne (by omega) p
      have hs : SameBut g W w3 := S2.out.trans hs3
      go_end0
      exact ⟨rfl, o3, ho3, hb3, hs, htr, hout⟩
    · have t0 : decide ((e : Int) - 1 < (a : Int)) = true := by simp; omega
      have HBlk := Lib.hid hblk
      clear hi hblk
      go_enter Try.func42, Try.ntmps42
      go_wp2_with fail
      refine bodyPost_ret (v := .tuple #[]) (by simp [results, Try.results42, go_sem]) rfl ⟨rfl, o, hol, HBlk.out, SameBut.refl _ _, .nil (by omega), fun x _ => rfl⟩
set_option maxHeartbeats 1000000 in
theorem refRmqTree_any (v : Value) (l : List Int) (w : World) (B : Nat) (hB : B ≤ w.heap.size) (h : IsInts .i64 w B v l) :
    Calls Try.prog 19 #[v] w (GivesTree l w) := by
  by_cases h1 : 300 < l.length
  · obtain ⟨A, c, rfl, hc, hm, hn, hr, hw⟩ := h
    clear hr hw
    go_enter Try.func19, Try.ntmps19
    go_wp2_with fail
    go_ret2
    exact ⟨_, [], 1, rfl, isInts_nil _ _ _, (Below.refl _ _).alloc (Nat.le_refl _) _, .inl ⟨h1, rfl, rfl⟩⟩
  have h1 : l.length ≤ 300 := by omega
  have hmk := fun w' => run_make1 el_int rfl l.length l.length rfl (by omega) (by omega) w'
  rw [zerosV_eq] at hmk
  have hp := treePart_any v l B (w.heap.size + 1) w.heap.size (w.heap.size + 1 + 1) (w.heap.size + 1 + 1 + 1) h1 (by omega) (by omega) (by omega) (by omega) l.length 0 l.length (-1) (List.replicate l.length 0)
  rw [show ((0 : Nat) : Int) = 0 from rfl] at hp
  have HP := Lib.hid fun W (hb : Below w.heap.size w W) => hp W (by omega) (Nat.le_refl _) (h.below (hb.mono hB)) (by simp)
  obtain ⟨A, c, rfl, hc, hm, hn, hr, hw⟩ := h
  clear hr hw hp
  obtain ⟨W4, hW4⟩ : ∃ W4, W4 = ((((w.alloc (.cells #[.slice A l.length c] 22)).alloc (.cells (zerosV l.length) 3)).alloc (.cells #[.slice (some ⟨w.heap.size + 1, 0, none⟩) l.length l.length] 22)).alloc (.cells #[.func (.func 42) #[] #[.pointer (some ⟨w.heap.size, 0, none⟩), .pointer (some ⟨w.heap.size + 1 + 1, 0, none⟩), .pointer (some ⟨w.heap.size + 1 + 1 + 1, 0, none⟩)]] 46)) := ⟨_, rfl⟩
  have HW4 := Lib.hid hW4
  have k1 : Hid (W4.cell? ⟨w.heap.size, 0, none⟩ = some (.slice A l.length c)) := Lib.hid (by
    rw [hW4, World.cell?_alloc_lt, World.cell?_alloc_lt, World.cell?_alloc_lt]
    · exact new_cell rfl
    all_goals (simp <;> omega))
  have k2 : Hid (W4.cell? ⟨w.heap.size + 1 + 1, 0, none⟩ = some (.slice (some ⟨w.heap.size + 1, 0, none⟩) l.length l.length)) := Lib.hid (by
    rw [hW4, World.cell?_alloc_lt]
    · exact new_cell (by simp)
    all_goals (simp <;> omega))
  have k3 : Hid (W4.cell? ⟨w.heap.size + 1 + 1 + 1, 0, none⟩ = some (.func (.func 42) #[] #[.pointer (some ⟨w.heap.size, 0, none⟩), .pointer (some ⟨w.heap.size + 1 + 1, 0, none⟩), .pointer (some ⟨w.heap.size + 1 + 1 + 1, 0, none⟩)])) := Lib.hid (by
    rw [hW4]
    exact new_cell (by simp))
  have hI : Hid (IBlk .i64 3 W4 (w.heap.size + 1) (List.replicate l.length 0)) := Lib.hid (by
    rw [hW4]; exact ((IBlk.zerosV_at 3 (w.alloc (.cells #[.slice A l.length c] 22)) l.length (w.heap.size + 1) (by simp)).alloc _).alloc _)
  have hBe : Hid (Below w.heap.size w W4) := Lib.hid (by
    rw [hW4]
    have s1 : w.heap.size ≤ (w.alloc (.cells #[.slice A l.length c] 22)).heap.size := by simp
    have s2 : w.heap.size ≤ ((w.alloc (.cells #[.slice A l.length c] 22)).alloc (.cells (zerosV l.length) 3)).heap.size := by simp; omega
    have s3 : w.heap.size ≤ (((w.alloc (.cells #[.slice A l.length c] 22)).alloc (.cells (zerosV l.length) 3)).alloc (.cells #[.slice (some ⟨w.heap.size + 1, 0, none⟩) l.length l.length] 22)).heap.size := by simp; omega
    exact ((((Below.refl _ _).alloc (Nat.le_refl _) _).alloc s1 _).alloc s2 _).alloc s3 _)
  clear hW4
  go_enter Try.func19, Try.ntmps19
  go_wp2_with (go_at_call 42; rw [← HW4.out]; refine (HP.out W4 hBe.out hI.out k1.out k2.out k3.out).mono ?_; rintro en w3 ⟨rfl, o', ho', hb', hs', ht', _⟩; have k4 := (hs'.cell ⟨w.heap.size + 1 + 1, 0, none⟩ (by show w.heap.size + 1 + 1 ≠ w.heap.size + 1; omega)).trans k2.out; have HB' := Lib.hid hb'; have HS' := Lib.hid hs'; have HT' := Lib.hid ht'; clear hb' hs' ht')
  go_ret2
  have ht : TreeOf l o' := ⟨ho', HT'.out⟩
  refine ⟨_, o', 0, rfl, ?_, hBe.out.trans (HS'.out.below.mono (Nat.le_succ _)), .inr ⟨h1, ht, rfl⟩⟩
  have := HB'.out.isInts (by omega) (tree_wf h1 ht)
  rwa [ho'] at this
end Go.Proofs.Ytiflelifkjfpdaa
