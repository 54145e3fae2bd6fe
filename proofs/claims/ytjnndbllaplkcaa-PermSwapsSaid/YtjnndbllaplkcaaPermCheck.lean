/-
  Contract of perm.Check: what is wrong with a list as an order. Conditions: the argument is a list of ints.
-/
import Derived.Test.YtjnndbllaplkcaaPermCheckPlain
import Derived.Test.YtjnndbllaplkcaaLisFallPlain
namespace Go.Dam
open Go Go.RowKit
set_option linter.unusedVariables false
/-- make([]T, n), T a struct of one cell: a row of n of its cells. -/
theorem run_makeA {P : Program} {T E : TypeId} {c : Value} {bytes : Nat} (el : El P T E (.agg #[c]) 1 bytes) (x : Int) (n : Nat) (hx : x = n) (hn : bytes * n ≤ 281474976710656) (h63 : n ≤ 9223372036854775807) (w : World) :
    (Instr.makeSlice T (.int .i64 x) (.int .i64 x)).run P w = .ok (.slice (some ⟨w.heap.size, 0, none⟩) n n) (w.alloc (.cells (List.replicate n c).toArray E)) := by
  subst hx
  obtain ⟨i, hi, hz, hz1, hz2⟩ := el.info
  rw [run_make_rowN T E i _ el.ht hi hz .i64 .i64 n n (Nat.le_refl _) (by rw [hz2]; exact hn) h63 w, hz1, show (Value.agg #[c]).cells = #[c] from rfl]
  congr 3
  have : madeCells #[c] (n * 1) = (List.replicate n c).toArray := by
    unfold madeCells
    apply Array.ext
    · simp
    · intro j h1 h2
      have : j % 1 = 0 := Nat.mod_one j
      simp [this]
  rw [this]
/-- A block of marks, of element type t. -/
def TBlk (t : TypeId) (w : World) (g : Nat) (l : List Bool) : Prop := Blk w g t (l.map Value.bool).toArray
theorem TBlk.cell {t : TypeId} {w : World} {g : Nat} {f : Nat → Bool} {n i : Nat} (h : TBlk t w g (marks f n)) (hi : i < n) : w.cell? ⟨g, i, none⟩ = some (.bool (f i)) := by
  rw [Blk.cell h]; simp [marks_at hi]
theorem TBlk.set {t : TypeId} {w : World} {g : Nat} {l : List Bool} (h : TBlk t w g l) (i : Nat) (x : Bool) : TBlk t (w.setCell ⟨g, i, none⟩ (.bool x)) g (l.set i x) := by
  have := Blk.set_ h i (.bool x)
  unfold TBlk
  rw [List.map_set]
  simpa using this
theorem TBlk.new (t : TypeId) (w : World) (f : Nat → Bool) (n : Nat) (h : ∀ j, j < n → f j = false) : TBlk t (w.alloc (.cells (List.replicate n (Value.bool false)).toArray t)) w.heap.size (marks f n) := by
  rw [marks_false h]
  unfold TBlk
  rw [List.map_replicate]
  exact Blk.new w t _
end Go.Dam
namespace Go.Proofs.Ytjnndbllaplkcaa
open Go Go.RowKit Go.Dam
set_option linter.unusedVariables false
theorem el_seen : El Try.prog 68 69 (.agg #[.bool false]) 1 1 := ⟨Try.underlying68, by kernel_rfl, rfl, by decide⟩
set_option maxHeartbeats 1000000 in
theorem permCheck_any (v : Value) (l : List Int) (cc : Int) (w : World) (B : Nat) (hB : B ≤ w.heap.size) (h : IsInts .i64 w B v l) (hR : PermF l cc) :
    Calls Try.prog 24 #[v] w fun e w' => e = .returned (.int .i64 cc) ∧ Below w.heap.size w w' := by
  obtain ⟨A, c, rfl, hc, hm, hn, hr, hw⟩ := h
  by_cases h1 : 300 < l.length
  · obtain rfl : cc = 1 := by rcases hR with ⟨_, h⟩ | ⟨h, _⟩ | ⟨h, _⟩ <;> first | exact h | omega
    clear hr hw hR
    go_enter Try.func24, Try.ntmps24
    go_wp2_with fail
    go_ret
    exact ⟨rfl, Below.refl _ _⟩
  · have HYes : Hid ((∃ p, IsOrder l p) → cc = 0) := Lib.hid fun hp => by rcases hR with ⟨h, _⟩ | ⟨_, _, h⟩ | ⟨_, h, _⟩ <;> first | exact h | omega | exact absurd hp h
    have HNo : Hid ((¬ ∃ p, IsOrder l p) → cc = 4) := Lib.hid fun hp => by rcases hR with ⟨h, _⟩ | ⟨_, h, _⟩ | ⟨_, _, h⟩ <;> first | exact h | omega | exact absurd h hp
    have hmk := fun w' => run_makeA el_seen l.length l.length rfl (by omega) (by omega) w'
    clear hw hR
    go_enter Try.func24, Try.ntmps24
    go_wp2_with fail
    clear hmk
    go_loopw [5, 14] (fun zv iv wr => ∃ i : Nat, ∃ p, i ≤ l.length ∧ iv = .int .i64 i ∧ Half l i p ∧ TBlk 69 wr w.heap.size (marks (fun y => decide (y ∈ p)) l.length) ∧ Below w.heap.size w wr) (fun _ iv _ => l.length - (intOf iv).toNat)
    case atStart => exact ⟨0, [], by omega, rfl, Half.zero l, TBlk.new _ _ _ _ (fun j hj => by simp), (Below.refl _ _).alloc (Nat.le_refl _) _⟩
    case round =>
      obtain ⟨wo, rfl⟩ : ∃ wo : World, wo = wr := ⟨_, rfl⟩
      obtain ⟨i, p, hi, rfl, hp, hblk, hbel⟩ := hrel
      by_cases hlt : i < l.length
      · obtain ⟨b, off, rfl, hb, hcells⟩ := ints_cells hr (by omega)
        have k0 := (hbel.cell (p := ⟨b, off + i, none⟩) (by simp; omega)).trans (hcells i hlt)
        have HP := Lib.hid hp
        have HB := Lib.hid hbel
        have HBlk := Lib.hid hblk
        have hfail : l.getD i 0 < 0 ∨ (l.length : Int) ≤ l.getD i 0 ∨ (l.getD i 0).toNat ∈ p → cc = 4 := fun h => HNo.out (hp.no hlt h)
        by_cases hz1 : l.getD i 0 < 0
        · obtain rfl := hfail (.inl hz1)
          generalize l.getD i 0 = z at *
          clear hcells hp hblk hfail
          go_wp2_with fail
          go_ret
          exact ⟨rfl, hbel⟩
        · by_cases hz2 : (l.length : Int) ≤ l.getD i 0
          · obtain rfl := hfail (.inr (.inl hz2))
            generalize l.getD i 0 = z at *
            clear hcells hp hblk hfail
            go_wp2_with fail
            go_ret
            exact ⟨rfl, hbel⟩
          · obtain ⟨k, hk⟩ : ∃ k : Nat, l.getD i 0 = (k : Int) := ⟨(l.getD i 0).toNat, by omega⟩
            have hkl : k < l.length := by omega
            have q := hblk.cell hkl
            have qf := Blk.frozen hblk k
            by_cases hz3 : k ∈ p
            · obtain rfl := hfail (.inr (.inr (by rw [hk]; exact hz3)))
              rw [decide_eq_true hz3] at q
              rw [hk] at k0
              clear hcells hp hblk hfail hz3 hz1 hz2 hk
              go_wp2_with fail
              go_ret
              exact ⟨rfl, hbel⟩
            · have HS : Hid (TBlk 69 (wo.setCell ⟨w.heap.size, k, none⟩ (.bool true)) w.heap.size (marks (fun y => decide (y ∈ p ++ [k])) l.length)) := Lib.hid (by
                have := hblk.set k true
                rwa [marks_set (g' := fun y => decide (y ∈ p ++ [k])) (by simp) fun j hj hne => by simp [hne]] at this)
              have HP2 := Lib.hid (hp.step hlt hk hkl hz3)
              rw [decide_eq_false hz3] at q
              rw [hk] at k0
              clear hcells hp hblk hfail hz3 hz1 hz2 hk
              go_wp2_with fail
              go_roundw
              case rel => exact ⟨i + 1, p ++ [k], by omega, by go_num, HP2.out, HS.out, hbel.setCell (p := ⟨w.heap.size, k, none⟩) (Nat.le_refl _) _⟩
              case measure => simp [intOf]; omega
      · obtain rfl : i = l.length := by omega
        obtain rfl := HYes.out ⟨p, hp.whole⟩
        clear hp hblk
        go_wp2_with fail
        go_ret
        exact ⟨rfl, hbel⟩
end Go.Proofs.Ytjnndbllaplkcaa
