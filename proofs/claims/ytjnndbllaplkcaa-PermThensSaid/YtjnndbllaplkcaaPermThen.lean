/-
  Contracts of perm.Then and the reference's PermThen. Conditions: the arguments are lists of ints.
-/
import Derived.Test.YtjnndbllaplkcaaPermInverse
namespace Go.Dam
set_option linter.unusedVariables false
theorem then_lt {l m : List Int} {p q : List Nat} (hp : IsOrder l p) (hq : IsOrder m q) (he : l.length = m.length) {i : Nat} (hi : i < p.length) : p.getD i 0 < q.length ∧ q.getD (p.getD i 0) 0 < q.length ∧ m.getD (p.getD i 0) 0 = ((q.getD (p.getD i 0) 0 : Nat) : Int) := by
  have h1 := order_len hp
  have h2 := order_len hq
  have h3 := (order_at hp hi).2
  have h4 : p.getD i 0 < q.length := by omega
  have h5 := order_at hq h4
  exact ⟨h4, h5.2, h5.1⟩
/-- The table while it is filled. -/
def thenF (p q : List Nat) (i y : Nat) : Nat := if y < i then q.getD (p.getD y 0) 0 else 0
theorem thenF_zero (p q : List Nat) (n : Nat) : tab (thenF p q 0) n = tab (fun _ => 0) n := tab_congr fun j _ => by simp [thenF]
theorem thenF_step {p q : List Nat} {i n : Nat} : (tab (thenF p q i) n).set i (q.getD (p.getD i 0) 0) = tab (thenF p q (i + 1)) n := by
  refine tab_set (by unfold thenF; rw [if_pos (by omega)]) fun j hj hne => ?_
  unfold thenF
  by_cases h : j < i
  · rw [if_pos h, if_pos (by omega)]
  · rw [if_neg h, if_neg (by omega)]
theorem thenF_end {p q : List Nat} {n : Nat} : tab (thenF p q n) n = tab (fun i => q.getD (p.getD i 0) 0) n := tab_congr fun j hj => by unfold thenF; rw [if_pos hj]
attribute [irreducible] thenF
end Go.Dam
namespace Go.Proofs.Ytjnndbllaplkcaa
open Go Go.RowKit Go.Dam
set_option linter.unusedVariables false
theorem PermF.fun_ {l : List Int} {c d : Int} (h : PermF l c) (g : PermF l d) : c = d := by
  rcases h with ⟨a, rfl⟩ | ⟨a, b, rfl⟩ | ⟨a, b, rfl⟩ <;> rcases g with ⟨a2, rfl⟩ | ⟨a2, b2, rfl⟩ | ⟨a2, b2, rfl⟩ <;> first | rfl | omega | exact absurd b b2 | exact absurd b2 b
set_option maxHeartbeats 1000000 in
theorem permThen_any (v u : Value) (l m r : List Int) (cc : Int) (w : World) (B : Nat) (hB : B ≤ w.heap.size) (h : IsInts .i64 w B v l) (h' : IsInts .i64 w B u m) (hR : ThenR l m r cc) :
    Calls Try.prog 29 #[v, u] w (GivesInts r cc w) := by
  have HP := fun c hc => permCheck_any v l c w B hB h hc
  have HQ := Lib.hid fun c hc W (hb : Below w.heap.size w W) => permCheck_any u m c W w.heap.size hb.size ((h'.more hB).below hb) hc
  obtain ⟨A, c, rfl, hc, hm, hn, hr, hw⟩ := h
  obtain ⟨A', c', rfl, hc', hm', hn', hr', hw'⟩ := h'
  rcases hR with ⟨hf, hc0, rfl⟩ | ⟨hf, hg, hc0, rfl⟩ | ⟨hf, hg, he, rfl, rfl⟩ | ⟨hf, hg, he, rfl, p, q, hp, hq, hl, rfl⟩
  · have HP := Lib.hid (HP _ hf)
    have t0 : (cc != 0) = true := by simpa using hc0
    clear hr hw hr' hw' hf hc0 HQ
    go_enter Try.func29, Try.ntmps29
    go_wp2_with (go_at_call 24; refine (HP.out).mono ?_; rintro e w1 ⟨rfl, hb1⟩)
    go_ret2
    exact ⟨_, rfl, isInts_nil _ _ _, hb1⟩
  · have HP := Lib.hid (HP _ hf)
    have HQ := Lib.hid (HQ.out _ hg)
    have t0 : (cc != 0) = true := by simpa using hc0
    clear hr hw hr' hw' hf hg hc0
    go_enter Try.func29, Try.ntmps29
    go_wp2_with (first
      | (go_at_call 24; with_reducible refine (HP.out).mono ?_; rintro e w1 ⟨rfl, hb1⟩)
      | (go_at_call 24; with_reducible refine (HQ.out _ hb1).mono ?_; rintro e w2 ⟨rfl, hb2⟩))
    go_ret2
    exact ⟨_, rfl, isInts_nil _ _ _, hb1.trans (hb2.mono hb1.size)⟩
  · have HP := Lib.hid (HP _ hf)
    have HQ := Lib.hid (HQ.out _ hg)
    have t0 : ((l.length : Int) != (m.length : Int)) = true := by rw [bne_iff_ne]; omega
    have t1 : ((l.length : Int) == (m.length : Int)) = false := by rw [beq_eq_false_iff_ne]; omega
    clear hr hw hr' hw' hf hg
    go_enter Try.func29, Try.ntmps29
    go_wp2_with (first
      | (go_at_call 24; with_reducible refine (HP.out).mono ?_; rintro e w1 ⟨rfl, hb1⟩)
      | (go_at_call 24; with_reducible refine (HQ.out _ hb1).mono ?_; rintro e w2 ⟨rfl, hb2⟩))
    go_ret2
    exact ⟨_, rfl, isInts_nil _ _ _, hb1.trans (hb2.mono hb1.size)⟩
  · have HP := Lib.hid (HP _ hf)
    have HQ := Lib.hid (HQ.out _ hg)
    have hmk := fun w' => run_make1 el_int rfl l.length l.length rfl (by omega) (by omega) w'
    have HPi := Lib.hid hp
    have HQi := Lib.hid hq
    have HPL := Lib.hid (order_len hp)
    have HQL := Lib.hid (order_len hq)
    have t0 : ((l.length : Int) != (m.length : Int)) = false := by rw [bne_eq_false_iff_eq]; omega
    have t1 : ((l.length : Int) == (m.length : Int)) = true := by rw [beq_iff_eq]; omega
    have HE := Lib.hid he
    have he2 : l.length ≤ m.length ∧ m.length ≤ l.length := by omega
    clear hw hw' hf hg hp hq he
    go_enter Try.func29, Try.ntmps29
    go_wp2_with (first
      | (go_at_call 24; with_reducible refine (HP.out).mono ?_; rintro e w1 ⟨rfl, hb1⟩)
      | (go_at_call 24; with_reducible refine (HQ.out _ hb1).mono ?_; rintro e w2 ⟨rfl, hb2⟩))
    have HB2 := Lib.hid (hb1.trans (hb2.mono hb1.size))
    have hz1 := hb1.size
    have hz2 := hb2.size
    clear hmk hb1 hb2
    go_loopw [9, 10, 31] (fun xv zv iv wr => ∃ i : Nat, i ≤ l.length ∧ iv = .int .i64 i ∧ IBlk .i64 3 wr w2.heap.size (toInts (tab (thenF p q i) l.length)) ∧ Below w.heap.size w wr) (fun _ _ iv _ => l.length - (intOf iv).toNat)
    case atStart =>
      refine ⟨0, by omega, rfl, ?_, HB2.out.alloc (by omega) _⟩
      rw [thenF_zero, tab_zero]
      exact IBlk.zeros _ _
    case round =>
      obtain ⟨i, hi, rfl, hblk, hbel⟩ := hrel
      by_cases hlt : i < l.length
      · obtain ⟨b, off, rfl, hb, hcells⟩ := ints_cells hr (by omega)
        obtain ⟨b2, off2, rfl, hb2, hcells2⟩ := ints_cells hr' (by omega)
        have k0 := (hbel.cell (p := ⟨b, off + i, none⟩) (by simp; omega)).trans (hcells i hlt)
        have hpi : i < p.length := by rw [HPL.out]; exact hlt
        obtain ⟨o1, o2⟩ := order_at HPi.out hpi
        obtain ⟨o3, o4, o5⟩ := then_lt HPi.out HQi.out HE.out hpi
        rw [HPL.out] at o2
        rw [HQL.out] at o3 o4
        rw [o1] at k0
        have k1 := (hbel.cell (p := ⟨b2, off2 + p.getD i 0, none⟩) (by simp; omega)).trans (hcells2 _ o3)
        rw [o5] at k1
        have q0 := hblk.cell (i := i) (by rw [toInts_length, tab_length]; exact hlt)
        have qf := hblk.frozen i
        have HS : Hid (IBlk .i64 3 (wr.setCell ⟨w2.heap.size, i, none⟩ (.int .i64 ((q.getD (p.getD i 0) 0 : Nat) : Int))) w2.heap.size (toInts (tab (thenF p q (i + 1)) l.length))) := Lib.hid (by
          have := hblk.set i ((q.getD (p.getD i 0) 0 : Nat) : Int)
          rwa [toInts_set, thenF_step] at this)
        have HB := Lib.hid hbel
        generalize q.getD (p.getD i 0) 0 = x at *
        generalize p.getD i 0 = k at *
        clear hcells hcells2 hblk hbel o1 o5
        go_wp2_with fail
        go_roundw
        case rel => exact ⟨i + 1, by omega, by go_num, HS.out, HB.out.setCell (p := ⟨w2.heap.size, i, none⟩) (by simp; omega) _⟩
        case measure => simp [intOf]; omega
      · obtain rfl : i = l.length := by omega
        have hl2 := hblk.isInts (by rw [toInts_length, tab_length]; omega)
        rw [toInts_length, tab_length, thenF_end] at hl2
        have HI := Lib.hid hl2
        clear hblk hl2
        go_wp2
        go_ret2
        refine ⟨_, rfl, ?_, hbel⟩
        rw [HPL.out]
        exact HI.out (tab_wf (b := 1000) (fun j hj => by have := (then_lt HPi.out HQi.out HE.out (i := j) (by rw [HPL.out]; exact hj)).2.1; rw [HQL.out] at this; omega) (by omega))
set_option maxHeartbeats 1000000 in
theorem refPermThen_any (v u : Value) (l m r : List Int) (cc : Int) (w : World) (B : Nat) (hB : B ≤ w.heap.size) (h : IsInts .i64 w B v l) (h' : IsInts .i64 w B u m) (hR : ThenR l m r cc) :
    Calls Try.prog 30 #[v, u] w (GivesInts r cc w) := by
  have HP := fun c hc => permFault_any v l c w B hB h hc
  have HQ := Lib.hid fun c hc W (hb : Below w.heap.size w W) => permFault_any u m c W w.heap.size hb.size ((h'.more hB).below hb) hc
  obtain ⟨A, c, rfl, hc, hm, hn, hr, hw⟩ := h
  obtain ⟨A', c', rfl, hc', hm', hn', hr', hw'⟩ := h'
  rcases hR with ⟨hf, hc0, rfl⟩ | ⟨hf, hg, hc0, rfl⟩ | ⟨hf, hg, he, rfl, rfl⟩ | ⟨hf, hg, he, rfl, p, q, hp, hq, hl, rfl⟩
  · have HP := Lib.hid (HP _ hf)
    have t0 : (cc != 0) = true := by simpa using hc0
    have t1 : (cc == 0) = false := by simpa using hc0
    clear hr hw hr' hw' hf hc0 HQ
    go_enter Try.func30, Try.ntmps30
    go_wp2_with (go_at_call 25; refine (HP.out).mono ?_; rintro e w1 ⟨rfl, hb1⟩)
    go_ret2
    exact ⟨_, rfl, isInts_nil _ _ _, hb1⟩
  · have HP := Lib.hid (HP _ hf)
    have HQ := Lib.hid (HQ.out _ hg)
    have t0 : (cc != 0) = true := by simpa using hc0
    have t1 : (cc == 0) = false := by simpa using hc0
    clear hr hw hr' hw' hf hg hc0
    go_enter Try.func30, Try.ntmps30
    go_wp2_with (first
      | (go_at_call 25; with_reducible refine (HP.out).mono ?_; rintro e w1 ⟨rfl, hb1⟩)
      | (go_at_call 25; with_reducible refine (HQ.out _ hb1).mono ?_; rintro e w2 ⟨rfl, hb2⟩))
    go_ret2
    exact ⟨_, rfl, isInts_nil _ _ _, hb1.trans (hb2.mono hb1.size)⟩
  · have HP := Lib.hid (HP _ hf)
    have HQ := Lib.hid (HQ.out _ hg)
    have t0 : ((l.length : Int) != (m.length : Int)) = true := by rw [bne_iff_ne]; omega
    have t1 : ((l.length : Int) == (m.length : Int)) = false := by rw [beq_eq_false_iff_ne]; omega
    clear hr hw hr' hw' hf hg
    go_enter Try.func30, Try.ntmps30
    go_wp2_with (first
      | (go_at_call 25; with_reducible refine (HP.out).mono ?_; rintro e w1 ⟨rfl, hb1⟩)
      | (go_at_call 25; with_reducible refine (HQ.out _ hb1).mono ?_; rintro e w2 ⟨rfl, hb2⟩))
    go_ret2
    exact ⟨_, rfl, isInts_nil _ _ _, hb1.trans (hb2.mono hb1.size)⟩
  · have HP := Lib.hid (HP _ hf)
    have HQ := Lib.hid (HQ.out _ hg)
    have HPi := Lib.hid hp
    have HQi := Lib.hid hq
    have HPL := Lib.hid (order_len hp)
    have HQL := Lib.hid (order_len hq)
    have t0 : ((l.length : Int) != (m.length : Int)) = false := by rw [bne_eq_false_iff_eq]; omega
    have t1 : ((l.length : Int) == (m.length : Int)) = true := by rw [beq_iff_eq]; omega
    have HE := Lib.hid he
    have he2 : l.length ≤ m.length ∧ m.length ≤ l.length := by omega
    clear hw hw' hf hg hp hq he
    go_enter Try.func30, Try.ntmps30
    go_wp2_with (first
      | (go_at_call 25; with_reducible refine (HP.out).mono ?_; rintro e w1 ⟨rfl, hb1⟩)
      | (go_at_call 25; with_reducible refine (HQ.out _ hb1).mono ?_; rintro e w2 ⟨rfl, hb2⟩))
    have HB2 := Lib.hid (hb1.trans (hb2.mono hb1.size))
    have hz1 := hb1.size
    have hz2 := hb2.size
    clear hb1 hb2
    go_loopw [7, 8, 29] (fun ov zv iv wr => ∃ i : Nat, i ≤ l.length ∧ iv = .int .i64 i ∧ wr.ownsRow w2.heap.size 3 1 ov i ((toInts (tab (fun i => q.getD (p.getD i 0) 0) i)).map (Value.int .i64)) ∧ Below w.heap.size w wr ∧ w2.heap.size ≤ wr.heap.size) (fun _ _ iv _ => l.length - (intOf iv).toNat)
    case atStart =>
      exact ⟨0, by omega, rfl, by rw [tab_nil, toInts_nil]; exact World.ownsRow_nil _ _ _ _, HB2.out, Nat.le_refl _⟩
    case round =>
      obtain ⟨i, hi, rfl, hown, hbel, hsz⟩ := hrel
      by_cases hlt : i < l.length
      · obtain ⟨b, off, rfl, hb, hcells⟩ := ints_cells hr (by omega)
        obtain ⟨b2, off2, rfl, hb2, hcells2⟩ := ints_cells hr' (by omega)
        have k0 := (hbel.cell (p := ⟨b, off + i, none⟩) (by simp; omega)).trans (hcells i hlt)
        have hpi : i < p.length := by rw [HPL.out]; exact hlt
        obtain ⟨o1, o2⟩ := order_at HPi.out hpi
        obtain ⟨o3, o4, o5⟩ := then_lt HPi.out HQi.out HE.out hpi
        rw [HPL.out] at o2
        rw [HQL.out] at o3 o4
        rw [o1] at k0
        have k1 := (hbel.cell (p := ⟨b2, off2 + p.getD i 0, none⟩) (by simp; omega)).trans (hcells2 _ o3)
        rw [o5] at k1
        have HO := Lib.hid hown
        have HB := Lib.hid hbel
        obtain ⟨A2, cap2, rfl⟩ := own_shape hown
        have HS := Lib.hid (tab_snoc (fun i => q.getD (p.getD i 0) 0) i)
        have hs2 : w.heap.size ≤ wr.heap.size := by omega
        generalize hx : q.getD (p.getD i 0) 0 = x at *
        generalize p.getD i 0 = k at *
        have HX := Lib.hid hx
        clear hown hbel hcells hcells2 o1 o5 hx
        go_wp2_with (at_builtin; refine wpList_push el_int rfl _ _ rfl w2.heap.size _ i _ (HO.out.alloc _) rfl wr.heap.size 1 _ rfl (by simp; rfl) rfl (by omega) (by omega) (by simp; omega) ?_; intro v' w3 hown3 hg3)
        go_roundw
        case rel => exact ⟨i + 1, by omega, by go_num, by rw [HS.out, toInts_snoc, List.map_append]; exact hown3, below_push (HB.out.alloc hs2 _) (HO.out.alloc _) (by omega) (by simp; omega) hg3, by have := hg3.size; simp at this; omega⟩
        case measure => simp [intOf]; omega
      · obtain rfl : i = l.length := by omega
        have HO := Lib.hid hown
        have HB := Lib.hid hbel
        clear hown hbel
        go_wp2
        go_ret2
        refine ⟨_, rfl, ?_, HB.out⟩
        rw [HPL.out]
        exact own_ints HO.out (by rw [toInts_length, tab_length]; omega) (tab_wf (b := 1000) (fun j hj => by have := (then_lt HPi.out HQi.out HE.out (i := j) (by rw [HPL.out]; exact hj)).2.1; rw [HQL.out] at this; omega) (by omega))
end Go.Proofs.Ytjnndbllaplkcaa
