/-
  Contracts of the library's swapRange_func and rotate_func (package sort), over any program that bears their bodies. Conditions: the two functions handed over read and exchange elements as they should.
-/
import Derived.Test.YthiccmncdmohbaaGreatMGridTops00
import Derived.Shelf.GgSortMore.Stable
import Derived.Shelf.SlSortCmp.Kit1
import Derived.Lib.Hide
set_option linter.unusedVariables false
set_option linter.unusedSimpArgs false
namespace Go.Dam.Stable
open Go Go.Shelf Go.RowKit Go.Lib Go.Sort Go.Proofs
set_option linter.unusedVariables false
variable {P : Program} {ρ : Ren} {α : Type} [Inhabited α]
/-- What is asked of the comparing function: in every world that the sort passes through it tells the order of two places; it may draw and lay blocks. -/
def LessLays (P : Program) (g : Nat) (lb : Array Value) (enc : α → Value) (lt : α → α → Bool) (blk off size : Nat) (w : World) : Prop :=
  ∀ (m : Nat) (os : Array Obj) (dk : Array α), dk.size = size → ∀ i j : Nat, i < size → j < size →
    Calls P g (#[.int .i64 i, .int .i64 j] ++ lb) (sortWorld enc w blk off m dk os) fun e w' => e = .returned (.bool (lt dk[i]! dk[j]!)) ∧ ∃ q os', w' = Sort.grow ((sortWorld enc w blk off m dk os).drewN q) os'
theorem lays_of_reads {g : Nat} {lb : Array Value} {enc : α → Value} {lt : α → α → Bool} {blk off size : Nat} {w : World} (h : LessReads P g lb enc lt blk off size w) : LessLays P g lb enc lt blk off size w :=
  fun m os dk hs i j hi hj => (h m os dk hs i j hi hj).mono fun _ _ ⟨he, q, hq⟩ => ⟨he, q, #[], by rw [hq, Sort.grow_empty]⟩
theorem LessLays.sw {g : Nat} {lb : Array Value} {enc : α → Value} {lt : α → α → Bool} {blk off size : Nat} {w W : World} {dk : Array α} (hL : LessLays P g lb enc lt blk off size w) (h : SW enc w blk off dk W) (hs : dk.size = size) (i j : Nat) (hi : i < size) (hj : j < size) :
    Calls P g (#[.int .i64 i, .int .i64 j] ++ lb) W fun e w' => e = .returned (.bool (lt dk[i]! dk[j]!)) ∧ ∃ q os', w' = Sort.grow (W.drewN q) os' := by
  obtain ⟨n, os, rfl⟩ := h
  exact hL n os dk hs i j hi hj
theorem LessLays.on {g : Nat} {lb : Array Value} {enc : α → Value} {lt : α → α → Bool} {blk off size : Nat} {w W : World} {dk : Array α} (hL : LessLays P g lb enc lt blk off size w) (h : SW enc w blk off dk W) (hblk : blk < w.heap.size) (hs : dk.size = size) : LessLays P g lb enc lt blk off size W :=
  fun m os d2 hs2 i j hi hj => hL.sw (h.on hblk m d2 os (by rw [hs2, hs])) hs2 i j hi hj
/-- The row that is sorted, and the two functions that read and exchange its elements. -/
structure Fam (P : Program) (g : Nat) (lb : Array Value) (sf : Nat) (sb : Array Value) (enc : α → Value) (lt : α → α → Bool) (blk off : Nat) (d : Array α) (W : World) : Prop where
  eg : ∀ args w, (callFunc g args).run P w = .ok (.enter g args) w
  less : LessLays P g lb enc lt blk off d.size W
  swap : SwapSwaps P sf sb enc blk off d.size
  hold : Holds enc W blk off d
  blt : blk < W.heap.size
  small : d.size < 1099511627776
section
variable {g sf blk off : Nat} {lb sb : Array Value} {enc : α → Value} {lt : α → α → Bool} {d d' : Array α} {W W' : World}
theorem Fam.on (F : Fam P g lb sf sb enc lt blk off d W) (h : SW enc W blk off d' W') (hs : d'.size = d.size) : Fam P g lb sf sb enc lt blk off d' W' :=
  ⟨F.eg, by rw [hs]; exact F.less.on h F.blt hs, by rw [hs]; exact F.swap, h.holds F.blt F.hold hs, h.lt F.blt, by rw [hs]; exact F.small⟩
theorem Fam.start (F : Fam P g lb sf sb enc lt blk off d W) : SW enc W blk off d W := SW.start F.hold
theorem sw_tr {d1 d2 : Array α} {W1 W2 : World} (h : SW enc W blk off d1 W1) (k : SW enc W1 blk off d2 W2) (hblk : blk < W.heap.size) (hs : d2.size = d1.size) : SW enc W blk off d2 W2 := by
  obtain ⟨m, os, rfl⟩ := k
  exact h.on hblk m d2 os hs
theorem Fam.box (F : Fam P g lb sf sb enc lt blk off d W) (o : Obj) : Fam P g lb sf sb enc lt blk off d (W.alloc o) := F.on (F.start.alloc o) rfl
theorem Fam.unbox (F : Fam P g lb sf sb enc lt blk off d W) {o : Obj} (h : SW enc (W.alloc o) blk off d' W') (hs : d'.size = d.size) : SW enc W blk off d' W' := sw_tr (F.start.alloc o) h F.blt hs
theorem sw_cell (h : SW enc W blk off d W') {p : Addr} {v : Value} (hp : p.block < W.heap.size) (hne : p.block ≠ blk) (hv : W.cell? p = some v) : W'.cell? p = some v := by
  obtain ⟨n, os, rfl⟩ := h
  unfold sortWorld
  rw [cell?_grow _ _ _ (by rw [Go.Proofs.size_putRow]; exact hp), cell?_putRow_other enc _ blk off _ _ (Or.inl hne)]
  exact hv
/-- The box of the two functions is kept. -/
theorem sw_box {a b : Value} {t : TypeId} (hblk : blk < W.heap.size) (h : SW enc (W.alloc (.cells #[a, b] t)) blk off d W') : W'.cell? ⟨W.heap.size, 0, none⟩ = some a ∧ W'.cell? ⟨W.heap.size, 1, none⟩ = some b :=
  ⟨sw_cell h (by simp) (by show W.heap.size ≠ blk; omega) (by simp), sw_cell h (by simp) (by show W.heap.size ≠ blk; omega) (by simp)⟩
theorem Fam.exch (F : Fam P g lb sf sb enc lt blk off d W) (i j : Nat) (hi : i < d.size) (hj : j < d.size) :
    (callFunc sf (#[.int .i64 i, .int .i64 j] ++ sb)).run P W = .ok (.value (.tuple #[])) ((W.setCell ⟨blk, off + i, none⟩ (enc d[j]!)).setCell ⟨blk, off + j, none⟩ (enc d[i]!)) := F.swap W d F.hold rfl i j hi hj
theorem Fam.exchSW (F : Fam P g lb sf sb enc lt blk off d W) (i j : Nat) (hi : i < d.size) (hj : j < d.size) : SW enc W blk off (swp d i j) ((W.setCell ⟨blk, off + i, none⟩ (enc d[j]!)).setCell ⟨blk, off + j, none⟩ (enc d[i]!)) := F.start.swap F.blt i j hi hj
theorem Fam.les (F : Fam P g lb sf sb enc lt blk off d W) (i j : Nat) (hi : i < d.size) (hj : j < d.size) :
    Calls P g (#[.int .i64 i, .int .i64 j] ++ lb) W fun e w' => e = .returned (.bool (lt (G d i) (G d j))) ∧ ∃ q os', w' = Sort.grow (W.drewN q) os' := F.less.sw F.start rfl i j hi hj
/-- What a part of the sort leaves. -/
def StLeaves (enc : α → Value) (blk off : Nat) (d : Array α) (W : World) (R : Array α → Prop) (e : Ending) (w' : World) : Prop := e = .returned (.tuple #[]) ∧ ∃ d', R d' ∧ d'.size = d.size ∧ SW enc W blk off d' w'
end
end Go.Dam.Stable
namespace Go.Proofs
open Go.Shelf Go.RowKit Go.Lib Go.Sort Go.Dam.Stable
set_option linter.unusedVariables false
variable {P : Program} {ρ : Ren} {α : Type} [Inhabited α] {g sf blk off : Nat} {lb sb : Array Value} {enc : α → Value} {lt : α → α → Bool}
set_option maxHeartbeats 1600000 in
set_option maxRecDepth 100000 in
theorem St.swapRange_any (L : LaysGt.n49 P ρ) {d : Array α} {W : World} (F : Fam P g lb sf sb enc lt blk off d W) (a b n : Nat) (hab : a + n ≤ b) (hb : b + n ≤ d.size) :
    Calls P (ρ.f 49) #[.agg #[.func (.func g) #[] lb, .func (.func sf) #[] sb], .int .i64 a, .int .i64 b, .int .i64 n] W (StLeaves enc blk off d W fun d' => PermIn a (b + n) d d' ∧ ∀ k, G d' k = G d (srI a b n k)) := by
  have mixed := L.mixed; have t0 := L.t0; have a0 := L.a0; have z0 := L.z0; have v0 := L.v0; have t3 := L.t3; have a3 := L.a3; have z3 := L.z3; have v3 := L.v3; have t4 := L.t4; have a4 := L.a4; have z4 := L.z4; have v4 := L.v4; have t26 := L.t26; have a26 := L.a26; have z26 := L.z26; have v26 := L.v26; have t38 := L.t38; have a38 := L.a38; have z38 := L.z38; have v38 := L.v38; have t42 := L.t42; have a42 := L.a42; have z42 := L.z42; have v42 := L.v42
  have u42 := run_underlying L.t42
  have hsm := F.small
  have hblt := F.blt
  have HF := Lib.hid F
  clear F
  go_enter L.f49, BodyGt.n49_ntmps ρ
  go_wp2
  go_loopw [8] (fun iv wr => ∃ (i : Nat) (dk : Array α), iv = .int .i64 i ∧ i ≤ n ∧ dk.size = d.size ∧ PermIn a (b + n) d dk ∧ (∀ k, G dk k = G d (srI a b i k)) ∧ SW enc (W.alloc (.cells #[.func (.func g) #[] lb, .func (.func sf) #[] sb] (ρ.t 42))) blk off dk wr) (fun iv _ => n - (intOf iv).toNat)
  case atStart => exact ⟨0, d, rfl, by omega, rfl, permIn_refl _ _ _, fun k => by rw [srI_0], (HF.out.box _).start⟩
  case round =>
    obtain ⟨i, dk, rfl, hi, hsz, hperm, hmap, hsw⟩ := hrel
    have HP := Lib.hid hperm
    have HM := Lib.hid hmap
    have HS := Lib.hid hsw
    have HSZ := Lib.hid hsz
    obtain ⟨c0, c1⟩ := sw_box hblt hsw
    have HFk := Lib.hid ((HF.out.box (.cells #[.func (.func g) #[] lb, .func (.func sf) #[] sb] (ρ.t 42))).on hsw hsz)
    by_cases hlt : i < n
    · have hs := HFk.out.exch (a + i) (b + i) (by omega) (by omega)
      rw [show (((a + i : Nat) : Int)) = (a : Int) + i from by omega, show (((b + i : Nat) : Int)) = (b : Int) + i from by omega] at hs
      clear hperm hmap hsw hsz
      go_wp2
      go_roundw
      case rel =>
        refine ⟨i + 1, swp dk (a + i) (b + i), by go_num, by omega, by rw [size_swp]; exact HSZ.out, permIn_trans _ _ _ _ _ HP.out (swp_permIn _ _ _ _ _ (by omega) (by omega) (by omega) (by omega) (by have := HSZ.out; omega)), fun k => ?_, ?_⟩
        · rw [swp_get' (by have := HSZ.out; omega) (by have := HSZ.out; omega), HM.out, srI_step (by omega)]
        · exact sw_tr HS.out (HFk.out.exchSW _ _ (by have := HSZ.out; omega) (by have := HSZ.out; omega)) (by simp; omega) (by rw [size_swp])
      case measure => simp [intOf]; omega
    · obtain rfl : i = n := by omega
      clear hperm hmap hsw hsz
      go_wp2
      go_end0
      exact ⟨rfl, dk, ⟨HP.out, HM.out⟩, HSZ.out, HF.out.unbox HS.out HSZ.out⟩
set_option maxHeartbeats 1600000 in
set_option maxRecDepth 100000 in
theorem St.rotate_any (L : LaysGt.n42 P ρ) {d : Array α} {W : World} (F : Fam P g lb sf sb enc lt blk off d W) (a m b : Nat) (ham : a < m) (hmb : m < b) (hb : b ≤ d.size) :
    Calls P (ρ.f 42) #[.agg #[.func (.func g) #[] lb, .func (.func sf) #[] sb], .int .i64 a, .int .i64 m, .int .i64 b] W (StLeaves enc blk off d W fun d' => PermIn a b d d' ∧ ∀ k, G d' k = G d (rotI a m b k)) := by
  have mixed := L.mixed; have t0 := L.t0; have a0 := L.a0; have z0 := L.z0; have v0 := L.v0; have t3 := L.t3; have a3 := L.a3; have z3 := L.z3; have v3 := L.v3; have t4 := L.t4; have a4 := L.a4; have z4 := L.z4; have v4 := L.v4; have t26 := L.t26; have a26 := L.a26; have z26 := L.z26; have v26 := L.v26; have t38 := L.t38; have a38 := L.a38; have z38 := L.z38; have v38 := L.v38; have t42 := L.t42; have a42 := L.a42; have z42 := L.z42; have v42 := L.v42
  have u42 := run_underlying L.t42
  have e49 : ∀ args w, (callFunc (ρ.f 49) args).run P w = .ok (.enter (ρ.f 49) args) w := enters_of L.f49 (by kernel_rfl) rfl
  have hsm := F.small
  have hblt := F.blt
  have HF := Lib.hid F
  have LS : LaysGt.n49 P ρ := { L with }
  clear F
  go_enter L.f42, BodyGt.n42_ntmps ρ
  go_wp2
  go_loopw [8, 9] (fun iv jv wr => ∃ (i j : Nat) (dk : Array α), iv = .int .i64 i ∧ jv = .int .i64 j ∧ 0 < i ∧ 0 < j ∧ a + i ≤ m ∧ m + j ≤ b ∧ dk.size = d.size ∧ PermIn a b d dk ∧ (∀ k, G d (rotI a m b k) = G dk (rotI (m - i) m (m + j) k)) ∧ SW enc (W.alloc (.cells #[.func (.func g) #[] lb, .func (.func sf) #[] sb] (ρ.t 42))) blk off dk wr) (fun iv jv _ => (intOf iv).toNat + (intOf jv).toNat)
  case atStart => exact ⟨m - a, b - m, d, by congr 1; omega, by congr 1; omega, by omega, by omega, by omega, by omega, rfl, permIn_refl _ _ _, fun k => by rw [show m - (m - a) = a from by omega, show m + (b - m) = b from by omega], (HF.out.box _).start⟩
  case round =>
    obtain ⟨i, j, dk, rfl, rfl, hi, hj, hia, hjb, hsz, hperm, hmap, hsw⟩ := hrel
    have HP := Lib.hid hperm
    have HM := Lib.hid hmap
    have HS := Lib.hid hsw
    have HSZ := Lib.hid hsz
    obtain ⟨c0, c1⟩ := sw_box hblt hsw
    have HFk := Lib.hid ((HF.out.box (.cells #[.func (.func g) #[] lb, .func (.func sf) #[] sb] (ρ.t 42))).on hsw hsz)
    clear hperm hmap hsw
    rcases Nat.lt_trichotomy i j with hlt | heq | hgt
    · have hc := St.swapRange_any LS HFk.out (m - i) (m + j - i) i (by omega) (by omega)
      rw [show (((m - i : Nat) : Int)) = (m : Int) - i from by omega, show (((m + j - i : Nat) : Int)) = (m : Int) + j - i from by omega] at hc
      have t1 : ((i : Int) != (j : Int)) = true := by simp; omega
      clear hsz
      go_wp2_with (go_at_fn (ρ.f 49); refine hc.mono ?_; rintro e w' ⟨rfl, d2, ⟨hp2, hm2⟩, hz2, hs2⟩; have HP2 := Lib.hid hp2; have HM2 := Lib.hid hm2; have HZ2 := Lib.hid hz2; have HS2 := Lib.hid hs2; clear hp2 hm2 hz2 hs2)
      go_roundw
      case rel =>
        refine ⟨i, j - i, d2, rfl, by congr 1; omega, by omega, by omega, by omega, by omega, by rw [HZ2.out, HSZ.out], permIn_trans _ _ _ _ _ HP.out (permIn_mono _ _ _ _ _ _ (by omega) (by omega) (by have := HSZ.out; omega) HP2.out), fun k => ?_, sw_tr HS.out HS2.out (by simp; omega) HZ2.out⟩
        rw [HM.out, rot_lt (by omega) hlt hi, HM2.out]
      case measure => simp [intOf]; omega
    · subst heq
      have hc := St.swapRange_any LS HFk.out (m - i) m i (by omega) (by omega)
      rw [show (((m - i : Nat) : Int)) = (m : Int) - i from by omega] at hc
      clear hsz
      go_wp2_with (go_at_fn (ρ.f 49); refine hc.mono ?_; rintro e w' ⟨rfl, d2, ⟨hp2, hm2⟩, hz2, hs2⟩; have HP2 := Lib.hid hp2; have HM2 := Lib.hid hm2; have HZ2 := Lib.hid hz2; have HS2 := Lib.hid hs2; clear hp2 hm2 hz2 hs2)
      go_end0
      refine ⟨rfl, d2, ⟨permIn_trans _ _ _ _ _ HP.out (permIn_mono _ _ _ _ _ _ (by omega) (by omega) (by have := HSZ.out; omega) HP2.out), fun k => ?_⟩, by rw [HZ2.out, HSZ.out], HF.out.unbox (sw_tr HS.out HS2.out (by simp; omega) HZ2.out) (by rw [HZ2.out, HSZ.out])⟩
      rw [HM.out, rot_eq (by omega), HM2.out]
    · have hc := St.swapRange_any LS HFk.out (m - i) m j (by omega) (by omega)
      rw [show (((m - i : Nat) : Int)) = (m : Int) - i from by omega] at hc
      have t1 : ((i : Int) != (j : Int)) = true := by simp; omega
      clear hsz
      go_wp2_with (go_at_fn (ρ.f 49); refine hc.mono ?_; rintro e w' ⟨rfl, d2, ⟨hp2, hm2⟩, hz2, hs2⟩; have HP2 := Lib.hid hp2; have HM2 := Lib.hid hm2; have HZ2 := Lib.hid hz2; have HS2 := Lib.hid hs2; clear hp2 hm2 hz2 hs2)
      go_roundw
      case rel =>
        refine ⟨i - j, j, d2, by congr 1; omega, rfl, by omega, by omega, by omega, by omega, by rw [HZ2.out, HSZ.out], permIn_trans _ _ _ _ _ HP.out (permIn_mono _ _ _ _ _ _ (by omega) (by omega) (by have := HSZ.out; omega) HP2.out), fun k => ?_, sw_tr HS.out HS2.out (by simp; omega) HZ2.out⟩
        rw [HM.out, rot_gt (by omega) hgt hj, HM2.out]
      case measure => simp [intOf]; omega
end Go.Proofs
