/-
  Contract of seg.Play: operations on ranges, one by one. Conditions: the arguments can be read as data.
-/
import Derived.Test.YtnkflafkalmnmaaMTopUnits26
import Derived.Test.YtnkflafkalmnmaaMTopUnits15
import Derived.Test.YtnkflafkalmnmaaMTopUnits00
namespace Go.Dam
open Go Go.RowKit
set_option linter.unusedVariables false
/-- What Play answers. -/
def PlayR (l o : List Int) (m : Nat) (r nw : List Int) (cc : Int) : Prop :=
  ((l.length < 1 ∨ 300 < l.length ∨ 300 < m) ∧ r = [] ∧ nw = [] ∧ cc = 1) ∨
  (¬ (l.length < 1 ∨ 300 < l.length ∨ 300 < m) ∧ anyN (fun i => !coordOk (l.getD i 0)) l.length = true ∧ r = [] ∧ nw = [] ∧ cc = 2) ∨
  (¬ (l.length < 1 ∨ 300 < l.length ∨ 300 < m) ∧ anyN (fun i => !coordOk (l.getD i 0)) l.length = false ∧ r = repT l o l.length m ∧ nw = rowT l o l.length m ∧ cc = 0)
theorem PlayR.ex (l o : List Int) (m : Nat) : ∃ r nw cc, PlayR l o m r nw cc := by
  by_cases h : l.length < 1 ∨ 300 < l.length ∨ 300 < m
  · exact ⟨_, _, _, .inl ⟨h, rfl, rfl, rfl⟩⟩
  · cases h2 : anyN (fun i => !coordOk (l.getD i 0)) l.length with
    | true => exact ⟨_, _, _, .inr (.inl ⟨h, h2, rfl, rfl, rfl⟩)⟩
    | false => exact ⟨_, _, _, .inr (.inr ⟨h, h2, rfl, rfl, rfl⟩)⟩
/-- Replies, numbers and a code are returned. -/
def GivesPlay (r nw : List Int) (cc : Int) (w : World) (e : Ending) (w' : World) : Prop :=
  ∃ x y k, e = .returned (.tuple #[x, y, .int .i64 cc]) ∧ k ≤ 300 ∧ IsFlat 2 w' w'.heap.size x k r ∧ IsInts .i64 w' w'.heap.size y nw ∧ Below w.heap.size w w'
section
variable {T : TypeId} {w w' : World} {M : Int} {k b e lo : Nat} {f : Nat → Int}
theorem own_chg {base size n : Nat} {E : TypeId} {v : Value} {xs : List Value} (h : w.ownsRow base E size v n xs) (hc : Chg b e w w') (he : e ≤ base) : w'.ownsRow base E size v n xs := by
  have hlt := fun g hg => h.lt g hg
  refine ⟨h.1, ?_⟩
  rcases h.2 with hn | ⟨g, cap, cur, rfl, h1, h2, rest⟩
  · exact .inl hn
  · exact .inr ⟨g, cap, cur, rfl, h1, (hc.block g (hlt g rfl).2 (by omega)).trans h2, rest⟩
theorem own_set_ne {base size n : Nat} {E : TypeId} {v : Value} {xs : List Value} (h : w.ownsRow base E size v n xs) {p : Addr} (hne : v.ownBlock ≠ some p.block) (x : Value) : (w.setCell p x).ownsRow base E size v n xs := by
  refine ⟨h.1, ?_⟩
  rcases h.2 with hn | ⟨g, cap, cur, rfl, h1, h2, rest⟩
  · exact .inl hn
  · exact .inr ⟨g, cap, cur, rfl, h1, (Below.heap_setCell w p x g (fun e => hne (by subst e; rfl))).trans h2, rest⟩
theorem SegT.own {base size n : Nat} {E : TypeId} {v : Value} {xs : List Value} (h : SegT T w M k b e lo f) (ho : w.ownsRow base E size v n xs) (hb : e ≤ base) (hg : w.grownBy w' v.ownBlock) : SegT T w' M k b e lo f := by
  refine h.far (b' := base) (e' := w.heap.size) ⟨hg.os, hg.tape, hg.output, hg.size, fun g h1 h2 => hg.block g h1 (fun e' => ?_)⟩ (.inl hb)
  have := (ho.lt g e'.symm).1
  exact h2 ⟨this, h1⟩
theorem SegT.of_below (h : SegT T w M k b e lo f) (hb : Below w.heap.size w w') : SegT T w' M k b e lo f := h.far (b' := 0) (e' := 0) (Chg.of_below hb) (by have := h.bounds.1; omega)
end
theorem coord_all {l : List Int} {n : Nat} (h : anyN (fun i => !coordOk (l.getD i 0)) n = false) : ∀ i, i < n → coordOk (l.getD i 0) = true := fun i hi => by
  have := anyN_false h i hi
  simpa using this
theorem repT_wf {l o : List Int} {n : Nat} (hl : ∀ i, i < n → coordOk (l.getD i 0) = true) (hn : n ≤ 300) : ∀ t, t ≤ 300 → ∀ z ∈ repT l o n t, (Lit.int .i64 z).wf = true
  | 0, _, z, hz => by rw [repT_0] at hz; cases hz
  | t + 1, ht, z, hz => by
    rw [repT_succ] at hz
    rcases List.mem_append.1 hz with hz | hz
    · exact repT_wf hl hn t (by omega) z hz
    · have hb : badT o n t = 0 ∨ badT o n t = 2 ∨ badT o n t = 3 := by
        unfold badT opBad; split
        · exact .inr (.inr rfl)
        · split
          · exact .inr (.inl rfl)
          · exact .inl rfl
      simp only [List.mem_cons, List.not_mem_nil, or_false] at hz
      rcases hz with rfl | rfl
      · exact WalkArith.wf_i64 (by omega)
      · have : -1099511627776 ≤ valT l o n t ∧ valT l o n t ≤ 1099511627776 := by
          by_cases h0 : badT o n t = 0
          · have hz := badT_zero h0
            have hbd : ∀ i, (o.getD (t * 4 + 1) 0).toNat ≤ i → i ≤ (o.getD (t * 4 + 1) 0).toNat + ((o.getD (t * 4 + 2) 0).toNat - (o.getD (t * 4 + 1) 0).toNat) → -315621376 ≤ nowT l o n t i ∧ nowT l o n t i ≤ 315621376 := fun i a b => nowT_le hl (by omega) (by omega)
            have h1 := leastF_bound (f := nowT l o n t) _ hbd
            have h2 := sum_bd (f := nowT l o n t) hbd (by omega) (by omega) (by omega)
            unfold valT
            rw [if_pos h0]
            split
            · omega
            · split
              · exact h2
              · omega
          · rw [valT_bad h0]; omega
        exact WalkArith.wf_i64 (by omega)
theorem rowT_wf {l o : List Int} {n m : Nat} (hl : ∀ i, i < n → coordOk (l.getD i 0) = true) (hm : m ≤ 300) : ∀ z ∈ rowT l o n m, (Lit.int .i64 z).wf = true := fun z hz => by
  unfold rowT at hz
  obtain ⟨i, hi, rfl⟩ := List.mem_map.1 hz
  have := nowT_le (o := o) hl hm (List.mem_range.1 hi)
  exact WalkArith.wf_i64 (by omega)
end Go.Dam
namespace Go.Proofs.Ytnkflafkalmnmaa
open Go Go.RowKit Go.Dam
set_option linter.unusedVariables false
theorem el_reply : El Try.prog 63 80 (.agg #[.int .i64 0, .int .i64 0]) 2 16 := ⟨Try.underlying63, by kernel_rfl, rfl, by decide⟩
theorem two_news {w : World} {g : Nat} {a b : Value} {t : TypeId} (hg : g = w.heap.size) : ∀ j u, [a, b][j]? = some u → (w.alloc (.cells #[a, b] t)).cell? ((⟨g, 0, none⟩ : Addr).add j) = some u := by
  subst hg
  intro j u hj
  rw [add_zero_addr]
  match j with
  | 0 => simp at hj; subst hj; simp
  | 1 => simp at hj; subst hj; simp
  | j + 2 => simp at hj
theorem two_ones {a b : Int} : ∀ u ∈ [Value.int .i64 a, Value.int .i64 b], u.oneCell' = true := by
  intro u hu
  simp at hu
  rcases hu with rfl | rfl <;> rfl
set_option maxRecDepth 100000 in
set_option maxHeartbeats 16000000 in
theorem segPlay_any (v u : Value) (l o r nw : List Int) (m : Nat) (cc : Int) (w : World) (B : Nat) (hB : B ≤ w.heap.size) (h : IsInts .i64 w B v l) (hu : IsFlat 4 w B u m o) (hR : PlayR l o m r nw cc) :
    Calls Try.prog 29 #[v, u] w (GivesPlay r nw cc w) := by
  have HCon := Lib.hid fun b (hb : anyN (fun i => !coordOk (l.getD i 0)) l.length = b) => segBadContains_any (fun x => !coordOk x) playBad_any v l b w B h hb
  obtain ⟨A, c, rfl, hc, hm, hn0, hr, hw⟩ := h
  obtain ⟨A2, c2, rfl, hc2, hm2, hn2, hl2, hr2, hw2⟩ := hu
  rcases hR with ⟨hs, rfl, rfl, rfl⟩ | ⟨hs, ha, rfl, rfl, rfl⟩ | ⟨hs, ha, rfl, rfl, rfl⟩
  · have hs' : l.length < 1 ∨ (¬ l.length < 1 ∧ 300 < l.length) ∨ (¬ l.length < 1 ∧ ¬ 300 < l.length ∧ 300 < m) := by omega
    clear HCon hs hr hr2 hw hw2 hl2
    rcases hs' with h1 | ⟨h1, h2⟩ | ⟨h1, h2, h3⟩
    · have t1 : decide (l.length < 1) = true := decide_eq_true h1
      have t1' : decide ((l.length : Int) < 1) = true := decide_eq_true (by omega)
      go_enter Try.func29, Try.ntmps29
      go_wp2_with fail
      go_ret3
      exact ⟨_, _, 0, rfl, by omega, isFlat_nil _ _ _, isInts_nil _ _ _, Below.refl _ _⟩
    · have t1 : decide (l.length < 1) = false := decide_eq_false h1
      have t1' : decide ((l.length : Int) < 1) = false := decide_eq_false (by omega)
      have t2' : decide (300 < (l.length : Int)) = true := decide_eq_true (by omega)
      go_enter Try.func29, Try.ntmps29
      go_wp2_with fail
      go_ret3
      exact ⟨_, _, 0, rfl, by omega, isFlat_nil _ _ _, isInts_nil _ _ _, Below.refl _ _⟩
    · have t1' : decide ((l.length : Int) < 1) = false := decide_eq_false (by omega)
      have t2' : decide (300 < (l.length : Int)) = false := decide_eq_false (by omega)
      have t3' : decide (300 < (m : Int)) = true := decide_eq_true (by omega)
      go_enter Try.func29, Try.ntmps29
      go_wp2_with fail
      go_ret3
      exact ⟨_, _, 0, rfl, by omega, isFlat_nil _ _ _, isInts_nil _ _ _, Below.refl _ _⟩
  · have HC := Lib.hid (HCon.out _ ha)
    have t1' : decide ((l.length : Int) < 1) = false := decide_eq_false (by omega)
    have t2' : decide (300 < (l.length : Int)) = false := decide_eq_false (by omega)
    have t3' : decide (300 < (m : Int)) = false := decide_eq_false (by omega)
    clear HCon ha hr hr2 hw hw2 hl2
    go_enter Try.func29, Try.ntmps29
    go_wp2_with (go_at_call 42; refine (HC.out).mono ?_; rintro e w1 ⟨rfl, rfl⟩)
    go_ret3
    exact ⟨_, _, 0, rfl, by omega, isFlat_nil _ _ _, isInts_nil _ _ _, Below.refl _ _⟩
  · have HC := Lib.hid (HCon.out _ ha)
    have HL := Lib.hid (coord_all ha)
    obtain ⟨n, hn⟩ : ∃ n, l.length = n := ⟨_, rfl⟩
    obtain ⟨bk, off, rfl, hbk, hcells⟩ := ints_cells hr (by omega)
    have HGr := Lib.hid (segGrow_any (M := 315621376) (by omega) (by omega) l l.length c bk off (by omega) (fun i hi => by have := coord_bd (HL.out i hi); omega) (l.length - 1) 0 w (by omega) (by omega) hcells)
    rw [hn] at HC HGr HL hs ⊢
    have HN := Lib.hid hn
    rw [show ((0 + (n - 1) : Nat) : Int) = (n : Int) - 1 from by omega] at HGr
    have hn1 : 1 ≤ n ∧ n ≤ 300 := by omega
    have hm3 : m ≤ 300 := by omega
    have t1' : decide ((n : Int) < 1) = false := decide_eq_false (by omega)
    have t2' : decide (300 < (n : Int)) = false := decide_eq_false (by omega)
    have t3' : decide (300 < (m : Int)) = false := decide_eq_false (by omega)
    have HR2 := Lib.hid hr2
    have HL2 := Lib.hid hl2
    clear HCon ha hr hr2 hw hw2 hl2 hs hn hcells
    go_enter Try.func29, Try.ntmps29
    go_upto_region 5 with (go_at_call 42; refine (HC.out).mono ?_; rintro e w1 ⟨rfl, rfl⟩)
    go_upto_region 6 with (go_at_call 45; refine (HGr.out).mono ?_; rintro e w1 ⟨b, rfl, hb0, hS1, hB1⟩)
    have HS1 := Lib.hid hS1
    have HB1 := Lib.hid hB1
    have hz1 := hB1.size
    clear hS1 hB1 HGr HC
    go_wp2_with fail
    go_loopw [8, 10, 11, 12, 13, 14, 39] (fun ov _ _ _ _ _ iv wr => ∃ t : Nat, t ≤ m ∧ iv = .int .i64 t ∧ Hid (wr.ownsRow w1.heap.size 80 2 ov t ((repT l o n t).map (Value.int .i64))) ∧ Hid (SegT 103 wr 315621376 (n - 1) b w1.heap.size 0 (nowT l o n t)) ∧ Hid (Below w.heap.size w wr)) (fun _ _ _ _ _ _ iv _ => m - (intOf iv).toNat)
    case atStart => exact ⟨0, by omega, rfl, Lib.hid (by rw [repT_0]; exact World.ownsRow_nil _ _ _ _), Lib.hid (HS1.out.congr fun i _ _ => (nowT_0 l o n i).symm), HB1⟩
    case round =>
      obtain ⟨wo, rfl⟩ : ∃ wo : World, wo = wr := ⟨_, rfl⟩
      obtain ⟨t, ht, rfl, HO, HS, HB⟩ := hrel
      obtain ⟨A3, c3, rfl⟩ := own_shape HO.out
      have hzo := HB.out.size
      have hSb := HS.out.bounds
      by_cases hlt : t < m
      · have i1 : (t : Int) < (m : Int) := by omega
        have tt1 : decide ((t : Int) < (m : Int)) = true := decide_eq_true i1
        obtain ⟨ob, oo, rfl, hob, hoc⟩ := flat_cells HR2.out HL2.out (by omega) (by omega)
        have cell : ∀ j, j < m * 4 → wo.cell? ⟨ob, oo + j, none⟩ = some (.int .i64 (o.getD j 0)) := fun j hj => (HB.out.cell (p := ⟨ob, oo + j, none⟩) (by show ob < _; omega)).trans (hoc j hj)
        have k0 := cell (t * 4) (by omega)
        have k1 := cell (t * 4 + 1) (by omega)
        have k2 := cell (t * 4 + 2) (by omega)
        have k3 := cell (t * 4 + 3) (by omega)
        rw [← Nat.add_assoc] at k1 k2 k3
        have hbz := fun h0 => badT_zero (o := o) (n := n) (t := t) h0
        obtain ⟨bad, hbad⟩ : ∃ q, badT o n t = q := ⟨_, rfl⟩
        have hbad2 : opBad n (o.getD (t * 4) 0) (o.getD (t * 4 + 1) 0) (o.getD (t * 4 + 2) 0) (o.getD (t * 4 + 3) 0) = bad := by rw [← hbad]; unfold badT; rfl
        obtain ⟨val, hval⟩ : ∃ q, valT l o n t = q := ⟨_, rfl⟩
        have HRp := Lib.hid (repT_succ l o n t)
        have HYes := Lib.hid fun h0 i => nowT_yes l o n (t := t) h0 i
        have HNo := Lib.hid fun h0 i => nowT_no l o n (t := t) h0 i
        have HAns := Lib.hid fun (h0 : badT o n t = 0) ls sm any => @ansT l o n t ls sm any (by omega) h0
        have HOther := Lib.hid fun h3 h4 => valT_other (l := l) (o := o) (n := n) (t := t) h3 h4
        have HVB := Lib.hid fun h0 => valT_bad (l := l) (o := o) (n := n) (t := t) h0
        have HZ := Lib.hid hbz
        rw [hbad] at HRp HYes HNo HAns HVB HZ
        rw [hval] at HRp HAns HOther HVB
        clear hbz hbad hval cell hoc
        generalize o.getD (t * 4) 0 = kind at *
        generalize o.getD (t * 4 + 1) 0 = olo at *
        generalize o.getD (t * 4 + 2) 0 = ohi at *
        generalize o.getD (t * 4 + 3) 0 = by_ at *
        have HFa := Lib.hid fun W => segFault_any (n : Int) kind olo ohi by_ W (by omega)
        rw [hbad2] at HFa
        clear hbad2
        go_upto_region 10 with fail
        have HBo := Lib.hid (Blk.new wo 67 #[.int .i64 kind, .int .i64 olo, .int .i64 ohi, .int .i64 by_])
        have hbA : Below wo.heap.size wo (wo.alloc (.cells #[.int .i64 kind, .int .i64 olo, .int .i64 ohi, .int .i64 by_] 67)) := (Below.refl _ _).alloc (Nat.le_refl _) _
        have HSa := Lib.hid (HS.out.of_below hbA)
        have HOa := Lib.hid (own_size HO.out hbA)
        have HBa := Lib.hid (HB.out.trans (hbA.mono hzo))
        have hza : wo.heap.size + 1 ≤ (wo.alloc (.cells #[.int .i64 kind, .int .i64 olo, .int .i64 ohi, .int .i64 by_] 67)).heap.size := by simp
        clear k0 k1 k2 k3 hbA
        generalize wo.alloc (.cells #[.int .i64 kind, .int .i64 olo, .int .i64 ohi, .int .i64 by_] 67) = Wa at *
        have p0 := (HBo.out.cell 0).trans rfl
        have p1 := (HBo.out.cell 1).trans rfl
        have p2 := (HBo.out.cell 2).trans rfl
        have p3 := (HBo.out.cell 3).trans rfl
        go_upto_region 11 with (go_at_call 46; refine (HFa.out _).mono ?_; rintro e1 w2 ⟨rfl, hb2⟩)
        have hzb := hb2.size
        have hbC : Below Wa.heap.size Wa (w2.alloc (.cells #[.int .i64 bad, .int .i64 0] 80)) := hb2.alloc hzb _
        have HBo2 := Lib.hid (HBo.out.below hbC (by omega))
        have HRb := Lib.hid (Blk.new w2 80 #[.int .i64 bad, .int .i64 0])
        have HSb := Lib.hid (HSa.out.of_below hbC)
        have HOb := Lib.hid (own_size HOa.out hbC)
        have HBb := Lib.hid (HBa.out.trans (hbC.mono (by omega)))
        have hzw : w2.heap.size + 1 ≤ (w2.alloc (.cells #[.int .i64 bad, .int .i64 0] 80)).heap.size := by simp
        clear p0 p1 p2 p3 hb2 hbC
        generalize w2.alloc (.cells #[.int .i64 bad, .int .i64 0] 80) = Wb at *
        have p0 := (HBo2.out.cell 0).trans rfl
        have p1 := (HBo2.out.cell 1).trans rfl
        have p2 := (HBo2.out.cell 2).trans rfl
        have p3 := (HBo2.out.cell 3).trans rfl
        have q0 := (HRb.out.cell 0).trans rfl
        have q1 := (HRb.out.cell 1).trans rfl
        by_cases hb0 : bad = 0
        · subst hb0
          have hz0 := HZ.out (by trivial)
          have HAp : Hid (Calls Try.prog 47 #[.pointer (some ⟨b, 0, none⟩), .agg #[.int .i64 kind, .int .i64 olo, .int .i64 ohi, .int .i64 by_], .int .i64 0, .int .i64 ((n : Int) - 1)] Wb (Applied 103 315621376 (n - 1) b w1.heap.size 0 kind olo ohi by_ (nowT l o n t) Wb)) := Lib.hid (by
            have := apply_any (M := 315621376) kind olo ohi by_ hz0.1 hz0.2.2.1 (fun e => by have := coord_bd (hz0.2.2.2.2 (by omega)); omega) (by omega) (by omega) (n - 1) b w1.heap.size 0 (nowT l o n t) Wb (by omega) (by omega) HSb.out (fun i _ a2 => by rw [← HYes.out (by trivial) i]; exact nowT_le HL.out (by omega) (by omega))
            rw [show ((0 + (n - 1) : Nat) : Int) = (n : Int) - 1 from by omega] at this
            exact this)
          have hk := hz0.1
          clear hz0
          go_upto_region 13 with (go_at_call 47; refine (HAp.out).mono ?_; rintro e1 w3 ⟨ls, sm, any, rfl, x1, x2, x3⟩)
          have hv := HAns.out (by trivial) ls sm any x1
          have HS3 := Lib.hid (x2.congr fun i _ _ => (HYes.out (by trivial) i).symm)
          have hz3 := x3.size
          have HO3 := Lib.hid (own_chg HOb.out x3 (Nat.le_refl _))
          have HB3 := Lib.hid (HBb.out.trans (x3.below (B := w.heap.size) (by omega) (by omega)))
          have HBo3 := Lib.hid (HBo2.out.chg x3 (by omega))
          have HRb3 := Lib.hid (HRb.out.chg x3 (by omega))
          clear p0 p1 p2 p3 q0 q1 x1 x2 x3 HAp
          have p0 := (HBo3.out.cell 0).trans rfl
          have q0 := (HRb3.out.cell 0).trans rfl
          have q1 := (HRb3.out.cell 1).trans rfl
          have g1 := HRb3.out.frozen 1
          have hlt2 := HRb3.out.lt
          by_cases h3 : kind = 3
          · obtain rfl := hv.1 h3
            have t3 : (kind == 3) = true := beq_iff_eq.2 h3
            clear hv h3
            have W9s : w3.heap.size ≤ (w3.setCell ⟨w2.heap.size, 1, none⟩ (.int .i64 ls)).heap.size := by simp
            have hc9 : Chg w2.heap.size (w2.heap.size + 1) w3 (w3.setCell ⟨w2.heap.size, 1, none⟩ (.int .i64 ls)) := (Chg.refl _ _ _).set_ (p := ⟨w2.heap.size, 1, none⟩) (.inl ⟨Nat.le_refl _, Nat.lt_succ_self _⟩) _
            have HR9 := Lib.hid (HRb3.out.set_ 1 (.int .i64 ls))
            have HS9 := Lib.hid (HS3.out.far hc9 (.inl (by omega)))
            have HB9 := Lib.hid (HB3.out.setCell (p := ⟨w2.heap.size, 1, none⟩) (by show w.heap.size ≤ w2.heap.size; omega) (.int .i64 ls))
            have HO9 := Lib.hid (own_set_ne HO3.out (p := ⟨w2.heap.size, 1, none⟩) (fun e => by have h9 := (HO.out.lt _ e).2; have h8 : (⟨w2.heap.size, 1, none⟩ : Addr).block = w2.heap.size := rfl; omega) (.int .i64 ls))
            go_upto_region 18 with fail
            clear q0 q1 p0 g1
            generalize w3.setCell ⟨w2.heap.size, 1, none⟩ (.int .i64 ls) = W9 at *
            have q0 := (HR9.out.cell 0).trans rfl
            have q1 := (HR9.out.cell 1).trans rfl
            go_wp2_with (at_builtin; refine wpList_pushM el_reply rfl (.tmp 71) (.tmp 73) rfl w1.heap.size _ t _ (HO9.out.alloc _) rfl ⟨W9.heap.size, 0, none⟩ 1 _ [.int .i64 0, .int .i64 ls] rfl rfl (two_news rfl) two_ones (by omega) (by omega) (by simp; omega) ?_; intro v' w4 hown4 hg4 hl4)
            go_roundw
            case rel => exact ⟨t + 1, by omega, by go_num, Lib.hid (by rw [HRp.out, List.map_append]; exact hown4), Lib.hid ((HS9.out.of_below ((Below.refl _ _).alloc (Nat.le_refl _) _)).own (HO9.out.alloc _) (Nat.le_refl _) hg4), Lib.hid (below_push (HB9.out.alloc (by omega) _) (HO9.out.alloc _) hz1 (by simp; omega) hg4)⟩
            case measure => simp [intOf]; omega
          · have t3 : (kind == 3) = false := beq_eq_false_iff_ne.2 h3
            by_cases h4 : kind = 4
            · obtain rfl := hv.2 h4
              have t4 : (kind == 4) = true := beq_iff_eq.2 h4
              clear hv h3 h4
              have W9s : w3.heap.size ≤ (w3.setCell ⟨w2.heap.size, 1, none⟩ (.int .i64 sm)).heap.size := by simp
              have hc9 : Chg w2.heap.size (w2.heap.size + 1) w3 (w3.setCell ⟨w2.heap.size, 1, none⟩ (.int .i64 sm)) := (Chg.refl _ _ _).set_ (p := ⟨w2.heap.size, 1, none⟩) (.inl ⟨Nat.le_refl _, Nat.lt_succ_self _⟩) _
              have HR9 := Lib.hid (HRb3.out.set_ 1 (.int .i64 sm))
              have HS9 := Lib.hid (HS3.out.far hc9 (.inl (by omega)))
              have HB9 := Lib.hid (HB3.out.setCell (p := ⟨w2.heap.size, 1, none⟩) (by show w.heap.size ≤ w2.heap.size; omega) (.int .i64 sm))
              have HO9 := Lib.hid (own_set_ne HO3.out (p := ⟨w2.heap.size, 1, none⟩) (fun e => by have h9 := (HO.out.lt _ e).2; have h8 : (⟨w2.heap.size, 1, none⟩ : Addr).block = w2.heap.size := rfl; omega) (.int .i64 sm))
              go_upto_region 18 with fail
              clear q0 q1 p0 g1
              generalize w3.setCell ⟨w2.heap.size, 1, none⟩ (.int .i64 sm) = W9 at *
              have q0 := (HR9.out.cell 0).trans rfl
              have q1 := (HR9.out.cell 1).trans rfl
              go_wp2_with (at_builtin; refine wpList_pushM el_reply rfl (.tmp 71) (.tmp 73) rfl w1.heap.size _ t _ (HO9.out.alloc _) rfl ⟨W9.heap.size, 0, none⟩ 1 _ [.int .i64 0, .int .i64 sm] rfl rfl (two_news rfl) two_ones (by omega) (by omega) (by simp; omega) ?_; intro v' w4 hown4 hg4 hl4)
              go_roundw
              case rel => exact ⟨t + 1, by omega, by go_num, Lib.hid (by rw [HRp.out, List.map_append]; exact hown4), Lib.hid ((HS9.out.of_below ((Below.refl _ _).alloc (Nat.le_refl _) _)).own (HO9.out.alloc _) (Nat.le_refl _) hg4), Lib.hid (below_push (HB9.out.alloc (by omega) _) (HO9.out.alloc _) hz1 (by simp; omega) hg4)⟩
              case measure => simp [intOf]; omega
            · have t4 : (kind == 4) = false := beq_eq_false_iff_ne.2 h4
              obtain rfl : val = 0 := (HOther.out h3 h4).symm ▸ rfl
              clear hv h3 h4
              go_wp2_with (at_builtin; refine wpList_pushM el_reply rfl (.tmp 71) (.tmp 73) rfl w1.heap.size _ t _ (HO3.out.alloc _) rfl ⟨w3.heap.size, 0, none⟩ 1 _ [.int .i64 0, .int .i64 0] rfl rfl (two_news rfl) two_ones (by omega) (by omega) (by simp; omega) ?_; intro v' w4 hown4 hg4 hl4)
              go_roundw
              case rel => exact ⟨t + 1, by omega, by go_num, Lib.hid (by rw [HRp.out, List.map_append]; exact hown4), Lib.hid ((HS3.out.of_below ((Below.refl _ _).alloc (Nat.le_refl _) _)).own (HO3.out.alloc _) (Nat.le_refl _) hg4), Lib.hid (below_push (HB3.out.alloc (by omega) _) (HO3.out.alloc _) hz1 (by simp; omega) hg4)⟩
              case measure => simp [intOf]; omega
        · have t0 : (bad == 0) = false := beq_eq_false_iff_ne.2 hb0
          obtain rfl : val = 0 := (HVB.out hb0)
          have HSn := Lib.hid (HSb.out.congr fun i _ _ => (HNo.out hb0 i).symm)
          clear hb0
          go_wp2_with (at_builtin; refine wpList_pushM el_reply rfl (.tmp 71) (.tmp 73) rfl w1.heap.size _ t _ (HOb.out.alloc _) rfl ⟨Wb.heap.size, 0, none⟩ 1 _ [.int .i64 bad, .int .i64 0] rfl rfl (two_news rfl) two_ones (by omega) (by omega) (by simp; omega) ?_; intro v' w4 hown4 hg4 hl4)
          go_roundw
          case rel => exact ⟨t + 1, by omega, by go_num, Lib.hid (by rw [HRp.out, List.map_append]; exact hown4), Lib.hid ((HSn.out.of_below ((Below.refl _ _).alloc (Nat.le_refl _) _)).own (HOb.out.alloc _) (Nat.le_refl _) hg4), Lib.hid (below_push (HBb.out.alloc (by omega) _) (HOb.out.alloc _) hz1 (by simp; omega) hg4)⟩
          case measure => simp [intOf]; omega
      · obtain rfl : m = t := by omega
        have tt1 : decide ((m : Int) < (m : Int)) = false := decide_eq_false (by omega)
        have i6 : ¬ (m : Int) < (m : Int) := by omega
        have hmk := fun w' => run_make1 el_int rfl n n rfl (by omega) (by omega) w'
        go_wp2_with fail
        clear hmk
        go_loopw [16, 81] (fun _ iv wr => ∃ (i : Nat) (X : List Int), i ≤ n ∧ iv = .int .i64 i ∧ Hid (IBlk .i64 3 wr wo.heap.size X ∧ X.length = n ∧ ∀ j, j < i → X.getD j 0 = nowT l o n m j) ∧ Hid (wr.ownsRow w1.heap.size 80 2 (.slice A3 m c3) m ((repT l o n m).map (Value.int .i64))) ∧ Hid (SegT 103 wr 315621376 (n - 1) b w1.heap.size 0 (nowT l o n m)) ∧ Hid (Below w.heap.size w wr)) (fun _ iv _ => n - (intOf iv).toNat)
        case atStart => exact ⟨0, List.replicate n 0, by omega, rfl, Lib.hid ⟨IBlk.zeros _ _, by simp, fun j hj => absurd hj (by omega)⟩, Lib.hid (HO.out.alloc _), Lib.hid (HS.out.of_below ((Below.refl _ _).alloc (Nat.le_refl _) _)), Lib.hid (HB.out.alloc hzo _)⟩
        case round =>
          obtain ⟨wi, rfl⟩ : ∃ wi : World, wi = wr := ⟨_, rfl⟩
          obtain ⟨i, X, hi, rfl, HX, HOi, HSi, HBi⟩ := hrel
          have hzi := HBi.out.size
          have hSi := HSi.out.bounds
          by_cases hlt2 : i < n
          · have i1 : (i : Int) < (n : Int) := by omega
            have tt3 : decide ((i : Int) < (n : Int)) = true := decide_eq_true i1
            have HAp : Hid (Calls Try.prog 47 #[.pointer (some ⟨b, 0, none⟩), .agg #[.int .i64 3, .int .i64 i, .int .i64 i, .int .i64 0], .int .i64 0, .int .i64 ((n : Int) - 1)] wi (Applied 103 315621376 (n - 1) b w1.heap.size 0 3 i i 0 (nowT l o n m) wi)) := Lib.hid (by
              have := apply_any (M := 315621376) 3 i i 0 (by omega) (Int.le_refl _) (fun e => by omega) (by omega) (by omega) (n - 1) b w1.heap.size 0 (nowT l o n m) wi (by omega) (by omega) HSi.out (fun j _ a2 => by rw [opF_ask (by decide) (by decide)]; exact nowT_le HL.out (by omega) (by omega))
              rw [show ((0 + (n - 1) : Nat) : Int) = (n : Int) - 1 from by omega] at this
              exact this)
            have HVal : Hid (∀ ls sm any, AnsR (opF 3 i i 0 (nowT l o n m)) i i 0 (n - 1) ls sm any → ls = nowT l o n m i) := Lib.hid fun ls sm any ha => by
              rcases ha with ⟨_, _, _, h9⟩ | ⟨_, p, q, hp, hq, rfl, _⟩
              · push_cast at h9; omega
              · obtain rfl : p = i := by push_cast at *; omega
                obtain rfl : q = 0 := by push_cast at *; omega
                rw [leastF_0, opF_ask (by decide) (by decide)]
            go_upto_region 24 with fail
            go_wp2_with (go_at_call 47; refine (HAp.out).mono ?_; rintro e1 w3 ⟨ls, sm, any, rfl, x1, x2, x3⟩; have HV := Lib.hid (HVal.out ls sm any x1); have HS3 := Lib.hid (x2.congr fun j _ _ => opF_ask (by decide) (by decide)); have hz3 := x3.size; have HX3 := Lib.hid (Blk.chg HX.out.1 x3 (by omega)); have HO3 := Lib.hid (own_chg HOi.out x3 (Nat.le_refl _)); have HB3 := Lib.hid (HBi.out.trans (x3.below (B := w.heap.size) (by omega) (by omega))); have k9 := IBlk.cell HX3.out (i := i) (by have := HX.out.2.1; omega); have f9 := IBlk.frozen HX3.out i; clear x1 x2 x3)
            go_roundw
            case rel =>
              have hc9 : Chg wo.heap.size (wo.heap.size + 1) w3 (w3.setCell ⟨wo.heap.size, i, none⟩ (.int .i64 ls)) := (Chg.refl _ _ _).set_ (p := ⟨wo.heap.size, i, none⟩) (.inl ⟨Nat.le_refl _, Nat.lt_succ_self _⟩) _
              refine ⟨i + 1, X.set i ls, by omega, by go_num, Lib.hid ⟨IBlk.set HX3.out i ls, by rw [List.length_set]; exact HX.out.2.1, fun j hj => ?_⟩, Lib.hid (own_set_ne HO3.out (p := ⟨wo.heap.size, i, none⟩) (fun e => by have h9 := (HO.out.lt _ e).2; have h8 : (⟨wo.heap.size, i, none⟩ : Addr).block = wo.heap.size := rfl; omega) _), Lib.hid (HS3.out.far hc9 (.inl (by omega))), Lib.hid (HB3.out.setCell (p := ⟨wo.heap.size, i, none⟩) (by show w.heap.size ≤ wo.heap.size; omega) _)⟩
              by_cases hji : i = j
              · subst hji
                rw [HV.out]
                have := HX.out.2.1
                simp [hlt2, this]
              · have h7 := HX.out.2.2 j (by omega)
                rw [← h7]
                simp [List.getElem?_set, hji]
            case measure => simp [intOf]; omega
          · obtain rfl : n = i := by omega
            have tt3 : decide ((n : Int) < (n : Int)) = false := decide_eq_false (by omega)
            have i7 : ¬ (n : Int) < (n : Int) := by omega
            have HXe : Hid (X = rowT l o n m) := Lib.hid (by
              refine List.ext_getElem (by rw [HX.out.2.1, rowT_len]) fun j h1 h2 => ?_
              have h3 := HX.out.2.2 j (by rw [← HX.out.2.1]; exact h1)
              have h4 := rowT_at l o n m (i := j) (by rw [← HX.out.2.1]; exact h1)
              rw [List.getD_eq_getElem?_getD, List.getElem?_eq_getElem h1] at h3
              rw [List.getD_eq_getElem?_getD, List.getElem?_eq_getElem h2] at h4
              simp only [Option.getD_some] at h3 h4
              rw [h3, h4])
            go_wp2_with fail
            go_ret3
            refine ⟨_, _, m, rfl, by omega, own_flat HOi.out (by omega) (repT_wf HL.out (by omega) m (by omega)), ?_, HBi.out⟩
            have h9 := IBlk.isInts HX.out.1 (by rw [HX.out.2.1]; omega) (by rw [HXe.out]; exact rowT_wf HL.out (by omega))
            rw [HX.out.2.1, HXe.out] at h9
            exact h9
end Go.Proofs.Ytnkflafkalmnmaa
