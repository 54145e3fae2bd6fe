/-
  Contract of pack.put: a number is put into words at a bit; no other block is touched. Conditions: the words are a block of the call's own, the bits lie within them.
-/
import Derived.Test.YteblkbgcnoepnaaBitsMake
import Derived.Test.YteblkbgcnoepnaaPutPlain
namespace Go.Proofs.Yteblkbgcnoepnaa
open Go Go.RowKit Go.Dam
set_option linter.unusedVariables false

/-- Only block g has turned (and draws lie between). -/
def Only (g : Nat) (w w' : World) : Prop := w.grownBy w' (some g)
theorem Only.blk {g : Nat} {w w' : World} (h : Only g w w') {k : Nat} {t : TypeId} {cs : Array Value} (hb : Blk w k t cs) (hk : k ≠ g) : Blk w' k t cs := hb.grown h (by simp [hk])
theorem Only.below {g B : Nat} {w0 w w' : World} (h : Only g w w') (hb : Below B w0 w) (hB : B ≤ g) (hz : B ≤ w.heap.size) : Below B w0 w' :=
  hb.grown h hz fun k hk => by injection hk with hk; omega
theorem only_refl (g : Nat) (w : World) : Only g w w := World.grownBy.refl w _
theorem only_set (g k : Nat) (w : World) (u : Value) (hw : g < w.heap.size) : Only g w (w.setCell ⟨g, k, none⟩ u) :=
  ⟨rfl, rfl, rfl, by simp [World.setCell], fun i hi hne => Below.heap_setCell w _ u i (by rintro rfl; exact hne rfl)⟩
theorem only_trans {g : Nat} {a b c : World} (h : Only g a b) (k : Only g b c) : Only g a c :=
  ⟨k.os.trans h.os, k.tape.trans h.tape, k.output.trans h.output, Nat.le_trans h.size k.size, fun i hi hne => (k.block i (Nat.lt_of_lt_of_le hi h.size) hne).trans (h.block i hi hne)⟩
theorem only_drew {g : Nat} {a b : World} (h : Only g a b) : Only g a b.drew := ⟨h.os, h.tape, h.output, h.size, h.block⟩
def PutPost (g : Nat) (ws : List Nat) (a n : Nat) (w : World) (e : Ending) (w' : World) : Prop :=
  e = .returned (.tuple #[]) ∧ ∃ vs, PutsTo ws a n vs ∧ WBlk w' g vs ∧ Only g w w'
theorem wblk_drew {w : World} {g : Nat} {ws : List Nat} (h : WBlk w g ws) : WBlk w.drew g ws := h
set_option maxHeartbeats 1000000 in
theorem put_any (g a n m c L : Nat) (ws : List Nat) (w : World) (hW : WBlk w g ws) (hw : ∀ z ∈ ws, z < 18446744073709551616) (hn : n < 2 ^ m) (hm : m ≤ 62) (ha : a + m ≤ 64 * ws.length) (ha' : a ≤ 18600) (hL : L = ws.length) (hc : L ≤ c) :
    Calls Try.prog 77 #[.slice (some ⟨g, 0, none⟩) L c, .int .i64 a, .int .i64 n] w (PutPost g ws a n w) := by
  subst hL
  have hp : 2 ^ m ≤ 2 ^ 62 := Nat.pow_le_pow_right (by decide) hm
  have hn62 : n < 4611686018427387904 := by omega
  by_cases h0 : n = 0
  · subst h0
    have HW := Lib.hid hW
    have HP := Lib.hid (puts_zero hw a)
    clear hW
    go_enter Try.func77, Try.ntmps77
    go_wp2
    refine bodyPost_ret (results_none rfl _ _ _) rfl ?_
    exact ⟨rfl, ws, HP.out, HW.out, only_refl _ _⟩
  have hm0 : 0 < m := by
    rcases Nat.eq_zero_or_pos m with h | h
    · subst h; omega
    · exact h
  have t0 : ((n : Int) == 0) = false := by simp; omega
  have hil : a / 64 < ws.length := by omega
  have k0 := hW.cell hil
  have f0 := Blk.frozen hW (a / 64)
  have hgl := Blk.lt hW
  have hx := getD_lt hw (a / 64)
  have e0 : bits .or .u64 ((ws.getD (a / 64) 0 : Nat) : Int) (IntKind.u64.wrap ((n : Int) * 2 ^ (a % 64))) = ((ws.getD (a / 64) 0 ||| n * 2 ^ (a % 64) % 18446744073709551616 : Nat) : Int) := by
    rw [wrap_u64]
    exact or_u64 _ _ _ _ rfl (by simp) hx (Nat.mod_lt _ (by decide))
  have hlow : WBlk (w.setCell ⟨g, a / 64, none⟩ (.int .u64 ((ws.getD (a / 64) 0 ||| n * 2 ^ (a % 64) % 18446744073709551616 : Nat) : Int))) g (putLow ws a n) := by
    unfold putLow; exact hW.set _ _
  obtain ⟨x, hx'⟩ : ∃ x, x = ws.getD (a / 64) 0 := ⟨_, rfl⟩
  obtain ⟨y, hy'⟩ : ∃ y, y = (ws.getD (a / 64) 0 ||| n * 2 ^ (a % 64) % 18446744073709551616) := ⟨_, rfl⟩
  rw [← hy'] at hlow e0
  rw [← hx'] at k0 e0
  have eup : (n : Int) / 2 ^ (64 - a % 64) = ((n / 2 ^ (64 - a % 64) : Nat) : Int) := by simp
  have HL := Lib.hid hlow
  have HO := Lib.hid (only_set g (a / 64) w (.int .u64 y) hgl)
  clear hlow hx' hy'
  by_cases hs : a % 64 = 0
  · have HP := Lib.hid (puts_low hw hn hm ha hm0 (.inl hs))
    have hs1 : ¬ 0 < a % 64 := by omega
    have t1 : decide (0 < a % 64) = false := by simp; omega
    clear hs hW eup
    go_enter Try.func77, Try.ntmps77
    go_wp2_with fail
    go_region
    go_wp2
    refine bodyPost_ret (results_none rfl _ _ _) rfl ?_
    exact ⟨rfl, _, HP.out, HL.out, only_drew HO.out⟩
  · have hs1 : 0 < a % 64 := by omega
    by_cases hup : n / 2 ^ (64 - a % 64) = 0
    · have HP := Lib.hid (puts_low hw hn hm ha hm0 (.inr hup))
      rw [hup] at eup
      clear hs hW hup
      go_enter Try.func77, Try.ntmps77
      go_wp2_with fail
      go_region
      go_wp2
      refine bodyPost_ret (results_none rfl _ _ _) rfl ?_
      exact ⟨rfl, _, HP.out, HL.out, only_drew HO.out⟩
    · have hup' : 0 < n / 2 ^ (64 - a % 64) := Nat.pos_of_ne_zero hup
      have hroom := up_room hn ha hs1 hup'
      have HP := Lib.hid (puts_high hw hn hm hroom hs1)
      have hl1 := putLow_length ws a n
      have k1 := HL.out.cell (k := a / 64 + 1) (by rw [hl1]; exact hroom)
      have f1 := Blk.frozen HL.out (a / 64 + 1)
      have hz := getD_lt (putLow_lt (a := a) (n := n) hw) (a / 64 + 1)
      obtain ⟨u, hu⟩ : ∃ u, u = n / 2 ^ (64 - a % 64) := ⟨_, rfl⟩
      have hul : u ≤ n := by rw [hu]; exact Nat.div_le_self _ _
      rw [← hu] at eup hup'
      have e1 := or_u64 _ _ ((putLow ws a n).getD (a / 64 + 1) 0) u rfl rfl hz (by omega)
      have hhigh : WBlk ((w.setCell ⟨g, a / 64, none⟩ (.int .u64 y)).setCell ⟨g, a / 64 + 1, none⟩ (.int .u64 (((putLow ws a n).getD (a / 64 + 1) 0 ||| u : Nat) : Int))) g (putHigh (putLow ws a n) a n) := by
        unfold putHigh; rw [← hu]; exact HL.out.set _ _
      obtain ⟨z, hz'⟩ : ∃ z, z = (putLow ws a n).getD (a / 64 + 1) 0 := ⟨_, rfl⟩
      rw [← hz'] at k1 e1 hhigh hz
      obtain ⟨q, hq⟩ : ∃ q, q = z ||| u := ⟨_, rfl⟩
      rw [← hq] at e1 hhigh
      have HH := Lib.hid hhigh
      have HO2 := Lib.hid (only_trans HO.out (only_set g (a / 64 + 1) _ (.int .u64 q) (by simpa [World.setCell] using hgl)))
      clear hhigh hz' hq hu hup hs hW hl1
      go_enter Try.func77, Try.ntmps77
      go_wp2_with fail
      go_region
      go_wp2
      go_end0
      exact ⟨rfl, _, HP.out, HH.out, only_drew HO2.out⟩
end Go.Proofs.Yteblkbgcnoepnaa
