/-
  Contracts of perm.Inverse and the reference's PermInverse. Conditions: the argument is a list of ints.
-/
import Derived.Test.YtjnndbllaplkcaaPermCheck
import Derived.Test.YtjnndbllaplkcaaRefPermFault
import Derived.Test.YtjnndbllaplkcaaPermLaws
import Derived.Test.YtjnndbllaplkcaaPlaceOf
namespace Go.Proofs.Ytjnndbllaplkcaa
open Go Go.RowKit Go.Dam
set_option linter.unusedVariables false
theorem PermF.le {l : List Int} (h : PermF l 0) : l.length ≤ 300 := by rcases h with ⟨_, h⟩ | ⟨h, _⟩ | ⟨h, _⟩ <;> first | exact h | cases h
set_option maxHeartbeats 1000000 in
theorem permInverse_any (v : Value) (l r : List Int) (cc : Int) (w : World) (B : Nat) (hB : B ≤ w.heap.size) (h : IsInts .i64 w B v l) (hR : InvR l r cc) :
    Calls Try.prog 26 #[v] w (GivesInts r cc w) := by
  have HP := fun c hc => permCheck_any v l c w B hB h hc
  obtain ⟨A, c, rfl, hc, hm, hn, hr, hw⟩ := h
  rcases hR with ⟨hf, hc0, rfl⟩ | ⟨hf, rfl, p, hp, hl, rfl⟩
  · have HP := Lib.hid (HP _ hf)
    have t0 : (cc != 0) = true := by simpa using hc0
    clear hr hw hf hc0
    go_enter Try.func26, Try.ntmps26
    go_wp2_with (go_at_call 24; refine (HP.out).mono ?_; rintro e w1 ⟨rfl, hb1⟩)
    go_ret2
    exact ⟨_, rfl, isInts_nil _ _ _, hb1⟩
  · have HP := Lib.hid (HP _ hf)
    have hmk := fun w' => run_make1 el_int rfl l.length l.length rfl (by omega) (by omega) w'
    have HPi := Lib.hid hp
    have hpl := order_len hp
    have HPL := Lib.hid hpl
    clear hw hf hp hpl
    go_enter Try.func26, Try.ntmps26
    go_wp2_with (go_at_call 24; refine (HP.out).mono ?_; rintro e w1 ⟨rfl, hb1⟩)
    clear hmk
    have hz1 := hb1.size
    go_loopw [6, 7, 18] (fun xv zv iv wr => ∃ i : Nat, i ≤ l.length ∧ iv = .int .i64 i ∧ IBlk .i64 3 wr w1.heap.size (toInts (tab (invF p i) l.length)) ∧ Below w.heap.size w wr) (fun _ _ iv _ => l.length - (intOf iv).toNat)
    case atStart =>
      refine ⟨0, by omega, rfl, ?_, hb1.alloc hz1 _⟩
      rw [invF_zero, tab_zero]
      exact IBlk.zeros _ _
    case round =>
      obtain ⟨i, hi, rfl, hblk, hbel⟩ := hrel
      by_cases hlt : i < l.length
      · obtain ⟨b, off, rfl, hb, hcells⟩ := ints_cells hr (by omega)
        have k0 := (hbel.cell (p := ⟨b, off + i, none⟩) (by simp; omega)).trans (hcells i hlt)
        have hpi : i < p.length := by rw [HPL.out]; exact hlt
        obtain ⟨o1, o2⟩ := order_at HPi.out hpi
        rw [HPL.out] at o2
        rw [o1] at k0
        have q := hblk.cell (i := p.getD i 0) (by rw [toInts_length, tab_length]; exact o2)
        have qf := hblk.frozen (p.getD i 0)
        have HS : Hid (IBlk .i64 3 (wr.setCell ⟨w1.heap.size, p.getD i 0, none⟩ (.int .i64 (i : Int))) w1.heap.size (toInts (tab (invF p (i + 1)) l.length))) := Lib.hid (by
          have := hblk.set (p.getD i 0) (i : Int)
          rwa [toInts_set, invF_step HPi.out.2.1 hpi] at this)
        have HB := Lib.hid hbel
        generalize p.getD i 0 = k at *
        clear hcells hblk hbel o1
        go_wp2_with fail
        go_roundw
        case rel => exact ⟨i + 1, by omega, by go_num, HS.out, HB.out.setCell (p := ⟨w1.heap.size, k, none⟩) hz1 _⟩
        case measure => simp [intOf]; omega
      · obtain rfl : i = l.length := by omega
        have hl2 := hblk.isInts (by rw [toInts_length, tab_length]; omega)
        rw [toInts_length, tab_length] at hl2
        have HI := Lib.hid hl2
        clear hblk hl2
        go_wp2
        go_ret2
        refine ⟨_, rfl, ?_, hbel⟩
        have e := invF_end HPi.out
        rw [HPL.out] at e ⊢
        rw [e] at HI
        exact HI.out (tab_wf (b := 1000) (fun j hj => by have := List.idxOf_le_length (a := j) (l := p); rw [HPL.out] at this; omega) (by omega))
set_option maxHeartbeats 1000000 in
theorem refPermInverse_any (v : Value) (l r : List Int) (cc : Int) (w : World) (B : Nat) (hB : B ≤ w.heap.size) (h : IsInts .i64 w B v l) (hR : InvR l r cc) :
    Calls Try.prog 27 #[v] w (GivesInts r cc w) := by
  have HP := fun c hc => permFault_any v l c w B hB h hc
  have HPlace := Lib.hid fun (y : Nat) W (hb : Below w.heap.size w W) => placeOf_any v l (y : Int) W w.heap.size ((h.more hB).below hb)
  obtain ⟨A, c, rfl, hc, hm, hn, hr, hw⟩ := h
  rcases hR with ⟨hf, hc0, rfl⟩ | ⟨hf, rfl, p, hp, hl, rfl⟩
  · have HP := Lib.hid (HP _ hf)
    have t0 : (cc != 0) = true := by simpa using hc0
    clear hr hw hf hc0 HPlace
    go_enter Try.func27, Try.ntmps27
    go_wp2_with (go_at_call 25; refine (HP.out).mono ?_; rintro e w1 ⟨rfl, hb1⟩)
    go_ret2
    exact ⟨_, rfl, isInts_nil _ _ _, hb1⟩
  · have HP := Lib.hid (HP _ hf)
    have HPi := Lib.hid hp
    have hpl := order_len hp
    have HPL := Lib.hid hpl
    clear hw hf hp hpl hr
    go_enter Try.func27, Try.ntmps27
    go_wp2_with (go_at_call 25; refine (HP.out).mono ?_; rintro e w1 ⟨rfl, hb1⟩)
    have hz1 := hb1.size
    go_loopw [5, 6, 14] (fun ov zv iv wr => ∃ i : Nat, i ≤ l.length ∧ iv = .int .i64 i ∧ wr.ownsRow w1.heap.size 3 1 ov i ((toInts (tab p.idxOf i)).map (Value.int .i64)) ∧ Below w.heap.size w wr ∧ w1.heap.size ≤ wr.heap.size) (fun _ _ iv _ => l.length - (intOf iv).toNat)
    case atStart =>
      exact ⟨0, by omega, rfl, by rw [tab_nil, toInts_nil]; exact World.ownsRow_nil _ _ _ _, hb1, Nat.le_refl _⟩
    case round =>
      obtain ⟨i, hi, rfl, hown, hbel, hsz⟩ := hrel
      by_cases hlt : i < l.length
      · have HO := Lib.hid hown
        have HB := Lib.hid hbel
        obtain ⟨A2, cap2, rfl⟩ := own_shape hown
        have hi2 : i < p.length := by rw [HPL.out]; exact hlt
        have HC := Lib.hid (HPlace.out i wr hbel)
        have HV : Hid (∀ rr : Int, _ → rr = ((p.idxOf i : Nat) : Int)) := Lib.hid fun rr => place_idx HPi.out hi2
        have HS := Lib.hid (tab_snoc p.idxOf i)
        have hs2 : w.heap.size ≤ wr.heap.size := by omega
        clear hown hbel
        go_wp2_with (first
          | (go_at_call 52; refine (HC.out).mono ?_; rintro e w2 ⟨⟨rr, rfl, hrr⟩, rfl⟩; obtain rfl := HV.out _ hrr; clear hrr)
          | (at_builtin; refine wpList_push el_int rfl _ _ rfl w1.heap.size _ i _ (HO.out.alloc _) rfl wr.heap.size 1 _ rfl (by simp; rfl) rfl (by omega) (by omega) (by simp; omega) ?_; intro v' w2 hown2 hg2))
        go_roundw
        case rel => exact ⟨i + 1, by omega, by go_num, by rw [HS.out, toInts_snoc, List.map_append]; exact hown2, below_push (HB.out.alloc hs2 _) (HO.out.alloc _) hz1 (by simp; omega) hg2, by have := hg2.size; simp at this; omega⟩
        case measure => simp [intOf]; omega
      · obtain rfl : i = l.length := by omega
        have HO := Lib.hid hown
        have HB := Lib.hid hbel
        clear hown hbel
        go_wp2
        go_ret2
        refine ⟨_, rfl, ?_, HB.out⟩
        rw [HPL.out]
        exact own_ints HO.out (by rw [toInts_length, tab_length]; omega) (tab_wf (b := 1000) (fun j hj => by have := List.idxOf_le_length (a := j) (l := p); rw [HPL.out] at this; omega) (by omega))
end Go.Proofs.Ytjnndbllaplkcaa
