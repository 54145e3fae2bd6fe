/-
  Texts of one claim behind each other. Conditions: none of its own.
-/
import Derived.Test.YtdmfhpigchbcbaaMTopCover03
/-
  Contract of sort.SearchInts (with sort.Search and its closure) on an ascending list of at most 2^40 ints: how many of them are less than a number. Conditions: the list can be read as data and does not fall.
-/
namespace Go.Dam
open Go
/-- The list does not fall. -/
def Asc (l : List Int) : Prop := ∀ i j, i ≤ j → j < l.length → l.getD i 0 ≤ l.getD j 0
/-- k is how many of the ascending list are less than x. -/
def RankOf (l : List Int) (x : Int) (k : Nat) : Prop := k ≤ l.length ∧ (∀ h, h < k → l.getD h 0 < x) ∧ ∀ h, k ≤ h → h < l.length → x ≤ l.getD h 0
theorem RankOf.uniq {l : List Int} {x : Int} {k m : Nat} (h : RankOf l x k) (g : RankOf l x m) : k = m := by
  rcases Nat.lt_trichotomy k m with h1 | h1 | h1
  · have a := g.2.1 k h1
    have b := h.2.2 k (Nat.le_refl _) (by have := g.1; omega)
    omega
  · exact h1
  · have a := h.2.1 m h1
    have b := g.2.2 m (Nat.le_refl _) (by have := h.1; omega)
    omega
end Go.Dam
namespace Go.Proofs.Ytdmfhpigchbcbaa
open Go Go.RowKit Go.Dam
set_option linter.unusedVariables false
set_option maxHeartbeats 400000 in
theorem siClos_any (h n c b off a1 a2 : Nat) (x y : Int) (w : World) (hh : h < n) (hn : n ≤ 1099511627776) (h1 : w.cell? ⟨a1, 0, none⟩ = some (.slice (some ⟨b, off, none⟩) n c)) (h2 : w.cell? ⟨a2, 0, none⟩ = some (.int .i64 x)) (h3 : w.cell? ⟨b, off + h, none⟩ = some (.int .i64 y)) :
    Calls Try.prog 85 #[.int .i64 h, .pointer (some ⟨a1, 0, none⟩), .pointer (some ⟨a2, 0, none⟩)] w fun e w' => e = .returned (.bool (decide (x ≤ y))) ∧ Drawn w w' := by
  go_enter Try.func85, Try.ntmps85
  go_wp2_with fail
  go_quiet (fail)
  go_wp2
  go_ret
  exact ⟨rfl, ⟨_, rfl⟩⟩
set_option maxHeartbeats 1000000 in
theorem siSearch_any (l : List Int) (c b off a1 a2 : Nat) (x : Int) (w : World) (hn : l.length ≤ 1099511627776) (ha : Asc l) (h1 : 0 < l.length → w.cell? ⟨a1, 0, none⟩ = some (.slice (some ⟨b, off, none⟩) l.length c)) (h2 : w.cell? ⟨a2, 0, none⟩ = some (.int .i64 x))
    (h3 : ∀ h, h < l.length → w.cell? ⟨b, off + h, none⟩ = some (.int .i64 (l.getD h 0))) :
    Calls Try.prog 58 #[.int .i64 l.length, .func (.func 85) #[] #[.pointer (some ⟨a1, 0, none⟩), .pointer (some ⟨a2, 0, none⟩)]] w fun e w' => (∃ k : Nat, e = .returned (.int .i64 k) ∧ RankOf l x k) ∧ Drawn w w' := by
  have H1 := Lib.hid h1
  have H2 := Lib.hid h2
  have H3 := Lib.hid h3
  have HA := Lib.hid ha
  clear h1 h2 h3 ha
  go_enter Try.func58, Try.ntmps58
  go_wp2_with fail
  go_loopw [5, 6] (fun iv jv wr => ∃ i j : Nat, i ≤ j ∧ j ≤ l.length ∧ iv = .int .i64 i ∧ jv = .int .i64 j ∧ (∀ h, h < i → l.getD h 0 < x) ∧ (∀ h, j ≤ h → h < l.length → x ≤ l.getD h 0) ∧ Drawn w wr) (fun iv jv _ => (intOf jv).toNat - (intOf iv).toNat)
  case atStart => exact ⟨0, l.length, by omega, by omega, rfl, rfl, fun h hh => absurd hh (by omega), fun h h1 h2 => absurd h2 (by omega), Drawn.refl _⟩
  case round =>
    obtain ⟨i, j, hi, hj, rfl, rfl, hlo, hhi, hd⟩ := hrel
    by_cases hlt : i < j
    · have HC := fun b hb => Lib.hid fun W (hW : Drawn w W) => (siClos_any ((i + j) / 2) l.length c _ off a1 a2 x (l.getD ((i + j) / 2) 0) W (by omega) hn ((hW.cell _).trans (H1.out (by omega))) ((hW.cell _).trans H2.out) ((hW.cell _).trans (H3.out _ (by omega)))).mono fun e w' ⟨he, hd'⟩ => (⟨he.trans (ret_bool hb), hd'⟩ : e = Ending.returned (.bool b) ∧ Drawn W w')
      have EM : Hid (((i : Int) + (j : Int)) / 2 = (((i + j) / 2 : Nat) : Int)) := Lib.hid (by simp)
      have HLO := Lib.hid hlo
      have HHI := Lib.hid hhi
      have HD := Lib.hid hd
      clear hlo hhi hd
      by_cases hc : x ≤ l.getD ((i + j) / 2) 0
      · have HC := HC true (by simpa using hc)
        have HX := Lib.hid hc
        clear hc
        go_wp2_with (rw [EM.out]; go_at_call 85; refine (HC.out _ HD.out).mono ?_; rintro e w1 ⟨rfl, hd1⟩)
        go_roundw
        case rel => exact ⟨i, (i + j) / 2, by omega, by omega, rfl, by go_num, HLO.out, fun h h1 h2 => Int.le_trans HX.out (HA.out _ _ h1 h2), HD.out.trans hd1⟩
        case measure => simp [intOf]; omega
      · have HC := HC false (by simpa using hc)
        have HX := Lib.hid hc
        clear hc
        go_wp2_with (rw [EM.out]; go_at_call 85; refine (HC.out _ HD.out).mono ?_; rintro e w1 ⟨rfl, hd1⟩)
        go_roundw
        case rel => exact ⟨(i + j) / 2 + 1, j, by omega, by omega, by go_num, rfl, fun h h1 => Int.lt_of_le_of_lt (HA.out _ _ (by omega : h ≤ (i + j) / 2) (by omega)) HX.out, HHI.out, HD.out.trans hd1⟩
        case measure => simp [intOf]; omega
    · obtain rfl : i = j := by omega
      have HR : Hid (RankOf l x i) := Lib.hid ⟨hj, hlo, hhi⟩
      clear hlo hhi
      go_wp2
      go_ret
      exact ⟨⟨i, rfl, HR.out⟩, hd⟩
set_option maxHeartbeats 400000 in
theorem searchInts_any (v : Value) (l : List Int) (x : Int) (w : World) (B : Nat) (hB : B ≤ w.heap.size) (h : IsInts .i64 w B v l) (hn : l.length ≤ 1099511627776) (ha : Asc l) :
    Calls Try.prog 70 #[v, .int .i64 x] w fun e w' => (∃ k : Nat, e = .returned (.int .i64 k) ∧ RankOf l x k) ∧ Below w.heap.size w w' := by
  obtain ⟨A, c, rfl, hc, hm, _, hr, hw⟩ := h
  have HS : Hid (Calls Try.prog 58 #[.int .i64 l.length, .func (.func 85) #[] #[.pointer (some ⟨w.heap.size, 0, none⟩), .pointer (some ⟨w.heap.size + 1, 0, none⟩)]] ((w.alloc (.cells #[.slice A l.length c] 22)).alloc (.cells #[.int .i64 x] 3)) fun e w' => (∃ k : Nat, e = .returned (.int .i64 k) ∧ RankOf l x k) ∧ Drawn ((w.alloc (.cells #[.slice A l.length c] 22)).alloc (.cells #[.int .i64 x] 3)) w') := Lib.hid (by
    rcases Nat.eq_zero_or_pos l.length with h0 | h0
    · exact siSearch_any l c 0 0 _ _ x _ hn ha (fun h => absurd h (by omega)) (by simp) (fun h hh => absurd hh (by omega))
    · obtain ⟨b, off, rfl, hb, hcells⟩ := ints_cells hr h0
      refine siSearch_any l c b off _ _ x _ hn ha (fun _ => by simp) (by simp) (fun h hh => ?_)
      rw [World.cell?_alloc_lt _ _ _ (by simp; omega), World.cell?_alloc_lt _ _ _ (by show b < _; omega)]
      exact hcells h hh)
  clear hr hw ha
  go_enter Try.func70, Try.ntmps70
  go_wp2_with (go_at_call 58; refine (HS.out).mono ?_; rintro e w1 ⟨⟨k, rfl, hk⟩, hd⟩)
  go_ret
  exact ⟨⟨k, rfl, hk⟩, ((((Below.refl _ _).alloc (Nat.le_refl _) _).alloc (by simp) _).trans (hd.below _))⟩
end Go.Proofs.Ytdmfhpigchbcbaa

/-
  Contract of the law's own helper sameInts: two slices that read alike are found alike; and the form of a result that is a list of ints with a code. Conditions: both read as the same ints.
-/
namespace Go.Dam
open Go Go.RowKit
/-- A list of ints and a code are returned, the list's cells below the world's end; no old memory is changed. -/
def GivesInts (l : List Int) (c : Int) (w : World) (e : Ending) (w' : World) : Prop := ∃ v, e = .returned (.tuple #[v, .int .i64 c]) ∧ IsInts .i64 w' w'.heap.size v l ∧ Below w.heap.size w w'
theorem isInts_nil (k : IntKind) (w : World) (B : Nat) : IsInts k w B (.slice none 0 0) [] :=
  ⟨none, 0, rfl, by simp, by unfold maxLen; omega, by simp, ⟨by simp, fun h => absurd h (by simp)⟩, fun z hz => by cases hz⟩
theorem IsInts.open_ {k : IntKind} {w : World} {B : Nat} {v : Value} {l : List Int} (h : IsInts k w B v l) {n : Nat} (hn : l.length = n) : ∃ A c, v = .slice A n c ∧ n ≤ c ∧ c ≤ maxLen ∧ Reads w B 1 A l.length (l.map (Value.int k)) := by
  subst hn
  obtain ⟨A, c, rfl, h1, h2, _, h3, _⟩ := h
  exact ⟨A, c, rfl, h1, h2, h3⟩
theorem int_wf {z : Int} (h : I64 z) : (Lit.int .i64 z).wf = true := by
  unfold I64 at h
  simpa [Lit.wf, IntKind.min, IntKind.max, IntKind.signed, IntKind.bits] using h
/-- The numbers below n with the mark. -/
def placesOf (p : Nat → Bool) : Nat → List Int
  | 0 => []
  | n + 1 => if p n = true then placesOf p n ++ [(n : Int)] else placesOf p n
theorem placesOf_yes {p : Nat → Bool} {n : Nat} (h : p n = true) : placesOf p (n + 1) = placesOf p n ++ [(n : Int)] := by rw [placesOf, if_pos h]
theorem placesOf_no {p : Nat → Bool} {n : Nat} (h : p n = false) : placesOf p (n + 1) = placesOf p n := by rw [placesOf, if_neg (by simp [h])]
theorem placesOf_len (p : Nat → Bool) : ∀ n, (placesOf p n).length ≤ n
  | 0 => by simp [placesOf]
  | n + 1 => by
    have := placesOf_len p n
    rw [placesOf]; split
    · simp; omega
    · omega
theorem placesOf_mem (p : Nat → Bool) : ∀ n z, z ∈ placesOf p n → ∃ i : Nat, z = i ∧ i < n ∧ p i = true
  | 0, z, hz => by simp [placesOf] at hz
  | n + 1, z, hz => by
    rw [placesOf] at hz; split at hz
    · rename_i h
      rcases List.mem_append.1 hz with h1 | h1
      · obtain ⟨i, rfl, hi, hp⟩ := placesOf_mem p n z h1
        exact ⟨i, rfl, by omega, hp⟩
      · simp at h1; exact ⟨n, h1, by omega, h⟩
    · obtain ⟨i, rfl, hi, hp⟩ := placesOf_mem p n z hz
      exact ⟨i, rfl, by omega, hp⟩
theorem placesOf_0 (p : Nat → Bool) : placesOf p 0 = [] := rfl
theorem placesOf_wf {p : Nat → Bool} {n : Nat} (hn : n ≤ 140737488351232) : ∀ z ∈ placesOf p n, (Lit.int .i64 z).wf = true := by
  intro z hz
  obtain ⟨i, rfl, hi, _⟩ := placesOf_mem p n z hz
  exact int_wf (by unfold I64; omega)
attribute [irreducible] placesOf
end Go.Dam
namespace Go.Proofs.Ytdmfhpigchbcbaa
open Go Go.RowKit Go.Dam
set_option linter.unusedVariables false
theorem el_int : El Try.prog 22 3 (.int .i64 0) 1 8 := ⟨Try.underlying22, by kernel_rfl, rfl, by decide⟩
end Go.Proofs.Ytdmfhpigchbcbaa

/-
  A block of the call's own that is just a row of ints: its cells, a store into it, and its reading as a list. Conditions: none; nothing here names the program.
-/
namespace Go.Dam
open Go Go.RowKit
set_option linter.unusedVariables false
/-- Block g is just the ints l of kind k, of element type t. -/
def IBlk (k : IntKind) (t : TypeId) (w : World) (g : Nat) (l : List Int) : Prop := Blk w g t (l.map (Value.int k)).toArray
section
variable {k : IntKind} {t : TypeId} {w w' : World} {g : Nat} {l : List Int}
theorem IBlk.cell (h : IBlk k t w g l) {i : Nat} (hi : i < l.length) : w.cell? ⟨g, i, none⟩ = some (.int k (l.getD i 0)) := by
  rw [Blk.cell h]; simp [hi]
theorem IBlk.frozen (h : IBlk k t w g l) (i : Nat) : w.frozen? ⟨g, i, none⟩ = false := Blk.frozen h i
theorem IBlk.lt (h : IBlk k t w g l) : g < w.heap.size := Blk.lt h
theorem IBlk.set (h : IBlk k t w g l) (i : Nat) (x : Int) : IBlk k t (w.setCell ⟨g, i, none⟩ (.int k x)) g (l.set i x) := by
  have := Blk.set_ h i (.int k x)
  unfold IBlk
  rw [List.map_set]
  simpa using this
theorem IBlk.far (h : IBlk k t w g l) {p : Addr} (hp : g ≠ p.block) (u : Value) : IBlk k t (w.setCell p u) g l := Blk.far h hp u
theorem IBlk.alloc (h : IBlk k t w g l) (o : Obj) : IBlk k t (w.alloc o) g l := Blk.alloc h o
theorem IBlk.drew (h : IBlk k t w g l) : IBlk k t w.drew g l := h
theorem IBlk.drewN (h : IBlk k t w g l) (n : Nat) : IBlk k t (w.drewN n) g l := h
theorem IBlk.below {B : Nat} (h : IBlk k t w g l) (hb : Below B w w') (hg : g < B) : IBlk k t w' g l := Blk.below h hb hg
theorem IBlk.grown {row : Option Nat} (h : IBlk k t w g l) (hb : w.grownBy w' row) (hg : some g ≠ row) : IBlk k t w' g l := Blk.grown h hb hg
theorem IBlk.zeros (w : World) (n : Nat) : IBlk k t (w.alloc (.cells (List.replicate n (Value.int k 0)).toArray t)) w.heap.size (List.replicate n 0) := by
  unfold IBlk; rw [List.map_replicate]; exact Blk.new w t _
theorem IBlk.zeros_at (w : World) (n g : Nat) (hg : g = w.heap.size) : IBlk k t (w.alloc (.cells (List.replicate n (Value.int k 0)).toArray t)) g (List.replicate n 0) := by subst hg; exact IBlk.zeros w n
theorem IBlk.reads (h : IBlk k t w g l) : Reads w w.heap.size 1 (some ⟨g, 0, none⟩) l.length (l.map (Value.int k)) := by
  refine ⟨by simp, fun _ => ⟨_, rfl, Blk.lt h, fun j u hu => ?_⟩⟩
  have : (⟨g, 0, none⟩ : Addr).add j = ⟨g, j, none⟩ := by unfold Addr.add; split <;> simp_all
  rw [this, Blk.cell h, ← hu]; simp
theorem IBlk.isInts (h : IBlk k t w g l) (hl : l.length ≤ 140737488351232) (hw : ∀ z ∈ l, (Lit.int k z).wf = true) : IsInts k w w.heap.size (.slice (some ⟨g, 0, none⟩) l.length l.length) l :=
  ⟨_, _, rfl, Nat.le_refl _, by unfold maxLen; omega, hl, h.reads, hw⟩
end
theorem set_getD_same {l : List Int} {i : Nat} (h : i < l.length) (x : Int) : (l.set i x).getD i 0 = x := by simp [h]
theorem set_getD_ne {l : List Int} {i j : Nat} (h : i ≠ j) (x : Int) : (l.set i x).getD j 0 = l.getD j 0 := by simp [h]
end Go.Dam
