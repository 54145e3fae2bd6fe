/-
  Contract of perm.sorted: the list sorted by merging, and how many pairs stood the other way round. Conditions: the argument is a list of not more than 300 ints.
-/
import Derived.Test.YtjnndbllaplkcaaPermNumber
import Derived.Test.YtjnndbllaplkcaaPermSwapsPlain
import Derived.Test.YtjnndbllaplkcaaStepPush
namespace Go.Dam
open Go Go.RowKit
set_option linter.unusedVariables false
/-- make([]T, 0, n), T one cell. -/
theorem run_make0 {P : Program} {T E : TypeId} {z : Value} {bytes : Nat} (el : El P T E z 1 bytes) (h1 : z.cells = #[z]) (n : Nat) (hn : bytes * n ≤ 281474976710656) (h63 : n ≤ 9223372036854775807) (w : World) :
    (Instr.makeSlice T (.int .i64 0) (.int .i64 (n : Int))).run P w = .ok (.slice (some ⟨w.heap.size, 0, none⟩) 0 n) (w.alloc (.cells (List.replicate n z).toArray E)) := by
  obtain ⟨i, hi, hz, hz1, hz2⟩ := el.info
  have := run_make_rowN T E i z el.ht hi hz .i64 .i64 0 n (Nat.zero_le _) (by rw [hz2]; exact hn) h63 w
  rw [show ((0 : Nat) : Int) = 0 from rfl, hz1, h1] at this
  rw [this]
  congr 3
  have : madeCells #[z] (n * 1) = (List.replicate n z).toArray := by
    unfold madeCells
    apply Array.ext
    · simp
    · intro j h1 h2
      have : j % 1 = 0 := Nat.mod_one j
      simp [this]
  rw [this]
theorem own_made0 {w : World} {E : TypeId} {n base : Nat} (hn : n ≤ 140737488351232) (hb : base ≤ w.heap.size) : (w.alloc (.cells (zerosV n) E)).ownsRow base E 1 (.slice (some ⟨w.heap.size, 0, none⟩) 0 n) 0 [] :=
  ⟨rfl, .inr ⟨w.heap.size, n, _, rfl, hb, Blk.new w E (zerosV n), Nat.zero_le _, by unfold maxLen; omega, by rw [← zerosV_eq]; simp, by simp⟩⟩
theorem addr_add (b off j : Nat) : (⟨b, off, none⟩ : Addr).add j = ⟨b, off + j, none⟩ := by unfold Addr.add; split <;> simp_all
theorem ints_news {w : World} {B n c : Nat} {ad : Addr} {a : List Int} (h : IsInts .i64 w B (.slice (some ad) n c) a) : a.length = n ∧ ∀ j u, (a.map (Value.int .i64))[j]? = some u → w.cell? (ad.add j) = some u := by
  obtain ⟨A', c', hv, hc, hm, hn, hr, hw⟩ := h
  obtain ⟨rfl, rfl, rfl⟩ : some ad = A' ∧ n = a.length ∧ c = c' := by injection hv with a b c; exact ⟨a, b, c⟩
  refine ⟨rfl, fun j u hu => ?_⟩
  have hj : j < a.length := by
    rcases Nat.lt_or_ge j a.length with g | g
    · exact g
    · rw [List.getElem?_eq_none (by simpa using g)] at hu; cases hu
  obtain ⟨b, off, e, hb, hcells⟩ := ints_cells hr (by omega)
  injection e with e
  subst e
  rw [addr_add, hcells j hj, ← hu]; simp [hj]
/-- What is behind the first k. -/
theorem IsInts.drop_ {w : World} {B : Nat} {b off c k : Nat} {l : List Int} (h : IsInts .i64 w B (.slice (some ⟨b, off, none⟩) l.length c) l) (hk : k < l.length) : IsInts .i64 w B (.slice (some ⟨b, off + k, none⟩) (l.length - k) (c - k)) (l.drop k) := by
  obtain ⟨A', c', hv, hc, hm, hn, hr, hw⟩ := h
  obtain ⟨rfl, rfl⟩ : some ⟨b, off, none⟩ = A' ∧ c = c' := by injection hv with a b c; exact ⟨a, c⟩
  have hl : (l.drop k).length = l.length - k := List.length_drop
  refine ⟨_, c - k, by rw [hl], by omega, by omega, by omega, ?_, fun z hz => hw z (List.mem_of_mem_drop hz)⟩
  obtain ⟨b', off', e, hb, hcells⟩ := ints_cells hr (by omega)
  injection e with e
  injection e with e1 e2 e3
  subst e1 e2
  refine ⟨by simp, fun _ => ⟨_, rfl, hb, fun j u hu => ?_⟩⟩
  have hj : j < l.length - k := by
    rcases Nat.lt_or_ge j (l.length - k) with g | g
    · exact g
    · rw [List.getElem?_eq_none (by rw [List.length_map, hl]; exact g)] at hu; cases hu
  rw [addr_add, Nat.add_assoc, hcells (k + j) (by omega), ← hu]
  rw [List.getElem?_map, List.getElem?_drop]
  simp [show k + j < l.length by omega]
theorem ints_head {w : World} {B n c : Nat} {ad : Addr} {x : Int} {a : List Int} (h : IsInts .i64 w B (.slice (some ad) n c) (x :: a)) : ∃ b off, ad = ⟨b, off, none⟩ ∧ n = a.length + 1 ∧ a.length + 1 ≤ c ∧ b < B ∧ w.cell? ⟨b, off, none⟩ = some (.int .i64 x) ∧ I64 x ∧
    (1 < c → IsInts .i64 w B (.slice (some ⟨b, off + 1, none⟩) a.length (c - 1)) a) ∧ (c = 1 → IsInts .i64 w B (.slice (some ⟨b, off, none⟩) a.length 0) a) := by
  have h0 := h
  obtain ⟨A', c', hv, hc, hm, hn, hr, hw⟩ := h
  obtain ⟨rfl, rfl, rfl⟩ : some ad = A' ∧ n = (x :: a).length ∧ c = c' := by injection hv with a b c; exact ⟨a, b, c⟩
  obtain ⟨b, off, e, hb, hcells⟩ := ints_cells hr (by simp)
  injection e with e
  subst e
  have hx := hw x (by simp)
  have h1 := hcells 0 (by simp)
  simp only [Nat.add_zero, List.getD_cons_zero] at h1
  refine ⟨b, off, rfl, rfl, by simpa using hc, hb, h1, ?_, fun h2 => ?_, fun h2 => ?_⟩
  · unfold I64
    simp [Lit.wf, IntKind.min, IntKind.max, IntKind.signed, IntKind.bits] at hx
    omega
  · rcases a with _ | ⟨y, a⟩
    · exact ⟨_, _, rfl, Nat.zero_le _, by unfold maxLen at *; omega, by simp, ⟨by simp, fun h => absurd h (by simp)⟩, fun z hz => by cases hz⟩
    · have := h0.drop_ (k := 1) (by simp)
      simpa using this
  · have : a = [] := by
      have := hc
      simp at this
      exact List.length_eq_zero_iff.1 (by omega)
    subst this
    exact ⟨_, _, rfl, Nat.zero_le _, by unfold maxLen; omega, by simp, ⟨by simp, fun h => absurd h (by simp)⟩, fun z hz => by cases hz⟩
theorem ints_some {w : World} {B : Nat} {v : Value} {l : List Int} (h : IsInts .i64 w B v l) (hl : l ≠ []) : ∃ ad n c, v = .slice (some ad) n c := by
  obtain ⟨A', c', rfl, hc, hm, hn, hr, hw⟩ := h
  obtain ⟨b, off, rfl, hb, hcells⟩ := ints_cells hr (List.length_pos_iff.2 hl)
  exact ⟨_, _, _, rfl⟩
end Go.Dam
namespace Go.Proofs.Ytjnndbllaplkcaa
open Go Go.RowKit Go.Dam
set_option linter.unusedVariables false
set_option maxHeartbeats 4000000 in
theorem permSorted_any : ∀ (N : Nat) (v : Value) (l : List Int) (w : World) (B : Nat), l.length ≤ N → l.length ≤ 300 → B ≤ w.heap.size → IsInts .i64 w B v l →
    Calls Try.prog 54 #[v] w fun e w' => ∃ u, e = .returned (.tuple #[u, .int .i64 ((invC l : Nat) : Int)]) ∧ IsInts .i64 w' w'.heap.size u (sortI l) ∧ Below w.heap.size w w' := by
  intro N
  induction N with
  | zero =>
    intro v l w B hN h3 hB h
    obtain ⟨e1, e2⟩ := short_sorted (l := l) (by omega)
    rw [e1, e2]
    have HI := Lib.hid (h.more hB)
    obtain ⟨A, c, rfl, hc, hm, hn, hr, hw⟩ := h
    clear hr hw e1 e2
    go_enter Try.func54, Try.ntmps54
    go_wp2_with fail
    go_ret2
    exact ⟨_, rfl, HI.out, Below.refl _ _⟩
  | succ N ih =>
    intro v l w B hN h3 hB h
    by_cases hs : l.length < 2
    · obtain ⟨e1, e2⟩ := short_sorted hs
      rw [e1, e2]
      have HI := Lib.hid (h.more hB)
      obtain ⟨A, c, rfl, hc, hm, hn, hr, hw⟩ := h
      clear hr hw e1 e2 ih
      go_enter Try.func54, Try.ntmps54
      go_wp2_with fail
      go_ret2
      exact ⟨_, rfl, HI.out, Below.refl _ _⟩
    · obtain ⟨hf, hhf⟩ : ∃ hf, hf = l.length / 2 := ⟨_, rfl⟩
      have hf1 : 1 ≤ hf := by omega
      have hf2 : hf < l.length := by omega
      have HWf := Lib.hid (show ∀ z ∈ sortI l, (Lit.int .i64 z).wf = true from by
        obtain ⟨_, _, _, _, _, _, _, hw⟩ := h
        exact fun z hz => hw z ((sortI_perm l).mem_iff.1 hz))
      have h0 := h
      obtain ⟨A, c, rfl, hc, hm, hn, hr, hw⟩ := h
      obtain ⟨b, off, rfl, hb, hcells⟩ := ints_cells hr (by omega)
      have EM : (l.length : Int) / 2 = (hf : Int) := by rw [hhf]; simp
      have hcf : hf < c := by omega
      have H1 := Lib.hid (ih (.slice (some ⟨b, off, none⟩) hf c) (l.take hf) w B (by rw [List.length_take]; omega) (by rw [List.length_take]; omega) hB (h0.take_ (by omega) (by omega)))
      have H2 := Lib.hid fun W (hbW : Below w.heap.size w W) => ih (.slice (some ⟨b, off + hf, none⟩) (l.length - hf) (c - hf)) (l.drop hf) W w.heap.size (by rw [List.length_drop]; omega) (by rw [List.length_drop]; omega) hbW.size (((h0.drop_ (k := hf) hf2).more hB).below hbW)
      have hmk := fun w' => run_make0 el_int rfl l.length (by omega) (by omega) w'
      simp only [zerosV_eq] at hmk
      have hv1 := Lib.hid (invC_le (l.take hf))
      have hv2 := Lib.hid (invC_le (l.drop hf))
      have hlt : (l.take hf).length = hf := by rw [List.length_take]; omega
      have hld : (l.drop hf).length = l.length - hf := List.length_drop
      have hi1 : invC (l.take hf) ≤ 90000 := Nat.le_trans hv1.out (by rw [hlt]; exact Nat.mul_le_mul (show hf ≤ 300 by omega) (show hf ≤ 300 by omega))
      have hi2 : invC (l.drop hf) ≤ 90000 := Nat.le_trans hv2.out (by rw [hld]; exact Nat.mul_le_mul (show l.length - hf ≤ 300 by omega) (show l.length - hf ≤ 300 by omega))
      have HHF := Lib.hid hhf
      have Hpos1 : Hid ((sortI (l.take hf)) ≠ []) := Lib.hid fun e => by have := congrArg List.length e; rw [sortI_len, hlt, List.length_nil] at this; omega
      have Hpos2 : Hid ((sortI (l.drop hf)) ≠ []) := Lib.hid fun e => by have := congrArg List.length e; rw [sortI_len, hld, List.length_nil] at this; omega
      clear hr hw hcells ih h0 hlt hld hhf
      go_enter Try.func54, Try.ntmps54
      go_wp2_with (first
        | (go_at_call 54; with_reducible refine (H1.out).mono ?_; rintro e w1 ⟨u1, rfl, hu1, hb1⟩)
        | (go_at_call 54; with_reducible refine (H2.out _ hb1).mono ?_; rintro e w2 ⟨u2, rfl, hu2, hb2⟩))
      have HB2 := Lib.hid (hb1.trans (hb2.mono hb1.size))
      have hz1 := hb1.size
      have hz2 := hb2.size
      have hpos1 := Hpos1.out
      have hpos2 := Hpos2.out
      have hs1 := sortI_sorted (l.take hf)
      have hs2 := sortI_sorted (l.drop hf)
      have hl1 : (sortI (l.take hf)).length = hf := by rw [sortI_len, List.length_take]; omega
      have hl2 : (sortI (l.drop hf)).length = l.length - hf := by rw [sortI_len, List.length_drop]
      have HM := Lib.hid fun o a b s hM he => merged (l := l) (h := hf) (o := o) (a := a) (b := b) (s := s) hM he
      have hu1' := (hu1.below hb2).more hb2.size
      obtain ⟨ad1, n1, c1, rfl⟩ := ints_some hu1' hpos1
      obtain ⟨ad2, n2, c2, rfl⟩ := ints_some hu2 hpos2
      have HU1 := Lib.hid hu1'
      have HU2 := Lib.hid hu2
      generalize hA : sortI (l.take hf) = SA at *
      generalize hB' : sortI (l.drop hf) = SB at *
      generalize hI1 : invC (l.take hf) = i1 at *
      generalize hI2 : invC (l.drop hf) = i2 at *
      have HS := Lib.hid (Merging.start hs1 hs2)
      clear hmk hb1 hb2 hu1 hu2 hu1' hpos1 hpos2 hs1 hs2 hA hB' hI1 hI2 hv1 hv2 H1 H2
      go_loopw [4, 6, 8, 9] (fun av bv ov sv wr => ∃ (o a b : List Int) (s : Nat) (ada adb : Addr) (na nb ca cb : Nat), av = .slice (some ada) na ca ∧ bv = .slice (some adb) nb cb ∧ IsInts .i64 wr w2.heap.size av a ∧ IsInts .i64 wr w2.heap.size bv b ∧ wr.ownsRow w2.heap.size 3 1 ov o.length (o.map (Value.int .i64)) ∧ sv = .int .i64 ((i1 : Int) + (i2 : Int) + (s : Int)) ∧ Merging SA SB o a b s ∧ Below w2.heap.size w2 wr) (fun av bv _ _ _ => (match av with | .slice _ n _ => n | _ => 0) + (match bv with | .slice _ n _ => n | _ => 0))
      case atStart => exact ⟨[], SA, SB, 0, ad1, ad2, n1, n2, c1, c2, rfl, rfl, HU1.out.below ((Below.refl _ _).alloc (Nat.le_refl _) _), HU2.out.below ((Below.refl _ _).alloc (Nat.le_refl _) _), own_made0 (by omega) (Nat.le_refl _), (by simp), HS.out, (Below.refl _ _).alloc (Nat.le_refl _) _⟩
      case round =>
        clear HU1 HU2 HS
        obtain ⟨o, a, b, s, ada, adb, na, nb, ca, cb, rfl, rfl, hia, hib, hown, rfl, hM, hbel⟩ := hrel
        have hsb := hM.bound
        have hlen := hM.len
        rw [hl1, hl2] at hlen hsb
        have hsb2 : s ≤ 90000 := Nat.le_trans hsb (Nat.mul_le_mul (show hf ≤ 300 by omega) (show l.length - hf ≤ 300 by omega))
        have hsz := hbel.size
        obtain ⟨hna0, HN1⟩ := ints_news hia
        obtain ⟨hnb0, HN2⟩ := ints_news hib
        by_cases he : na = 0 ∨ nb = 0
        · have hel : a = [] ∨ b = [] := by
            rcases he with h | h
            · exact .inl (List.length_eq_zero_iff.1 (by omega))
            · exact .inr (List.length_eq_zero_iff.1 (by omega))
          obtain ⟨hfin, hcnt⟩ := HM.out o a b s hM hel
          have HFin := Lib.hid hfin
          have HCnt := Lib.hid hcnt
          obtain ⟨A3, c3, rfl⟩ := own_shape hown
          have HO := Lib.hid hown
          have HB := Lib.hid hbel
          have HN1 := Lib.hid HN1
          have HIB := Lib.hid hib
          have HOneA : Hid (∀ u ∈ a.map (Value.int .i64), u.oneCell' = true) := Lib.hid fun u hu => by obtain ⟨z, _, rfl⟩ := List.mem_map.1 hu; rfl
          have HOneB : Hid (∀ u ∈ b.map (Value.int .i64), u.oneCell' = true) := Lib.hid fun u hu => by obtain ⟨z, _, rfl⟩ := List.mem_map.1 hu; rfl
          have HLenA : Hid ((a.map (Value.int .i64)).length = na * 1) := Lib.hid (by simp; omega)
          have HLenB : Hid ((b.map (Value.int .i64)).length = nb * 1) := Lib.hid (by simp; omega)
          have hlo : o.length + na + nb ≤ 600 := by omega
          have HTot : Hid (o.length + na + nb = l.length) := Lib.hid (by omega)
          generalize hno : o.length = lo at *
          clear hown hbel hia hib hM hel hfin hcnt hlen hsb hno hna0 hnb0
          have HWfs := HWf.out
          rcases Nat.eq_zero_or_pos na with h0 | h0
          · subst h0
            clear he
            go_wp2_with (first
              | (at_builtin; refine wpList_pushM el_int rfl (.tmp 73) (.tmp 74) rfl w2.heap.size (.slice A3 lo c3) lo _ HO.out rfl ada 0 ca (a.map (Value.int .i64)) rfl HLenA.out HN1.out HOneA.out (by omega) (by omega) (by omega) ?_; intro v' w3 hown3 hg3 hl3; obtain ⟨A4, c4, rfl⟩ := own_shape hown3; have hbw := below_push (Below.refl w2.heap.size wr) HO.out (Nat.le_refl _) hsz hg3; have HN2 := (ints_news (HIB.out.below hbw)).2)
              | (at_builtin; refine wpList_pushM el_int rfl (.tmp 75) (.tmp 76) rfl w2.heap.size (.slice A4 (lo + 0) c4) (lo + 0) _ hown3 rfl adb nb cb (b.map (Value.int .i64)) rfl HLenB.out HN2 HOneB.out (by omega) (by omega) (by have := hbw.size; omega) ?_; intro v' w4 hown4 hg4 hl4))
            go_ret2
            have hb3 := hbw.trans (below_push (Below.refl w2.heap.size w3) hown3 (Nat.le_refl _) (by have := hbw.size; omega) hg4)
            refine ⟨_, by rw [← HCnt.out]; push_cast; rfl, ?_, HB2.out.trans ((HB.out.trans hb3).mono (by omega))⟩
            rw [← HFin.out]
            rw [← HFin.out] at HWfs
            exact own_ints (by rw [List.map_append, List.map_append]; exact hown4) (by rw [HFin.out, sortI_len]; omega) HWfs
          · obtain h1 : nb = 0 := by omega
            subst h1
            have h0' : (0 : Int) < (na : Int) := by omega
            clear he
            go_wp2_with (first
              | (at_builtin; refine wpList_pushM el_int rfl (.tmp 73) (.tmp 74) rfl w2.heap.size (.slice A3 lo c3) lo _ HO.out rfl ada na ca (a.map (Value.int .i64)) rfl HLenA.out HN1.out HOneA.out (by omega) (by omega) (by omega) ?_; intro v' w3 hown3 hg3 hl3; obtain ⟨A4, c4, rfl⟩ := own_shape hown3; have hbw := below_push (Below.refl w2.heap.size wr) HO.out (Nat.le_refl _) hsz hg3; have HN2 := (ints_news (HIB.out.below hbw)).2)
              | (at_builtin; refine wpList_pushM el_int rfl (.tmp 75) (.tmp 76) rfl w2.heap.size (.slice A4 (lo + na) c4) (lo + na) _ hown3 rfl adb 0 cb (b.map (Value.int .i64)) rfl HLenB.out HN2 HOneB.out (by omega) (by omega) (by have := hbw.size; omega) ?_; intro v' w4 hown4 hg4 hl4))
            go_ret2
            have hb3 := hbw.trans (below_push (Below.refl w2.heap.size w3) hown3 (Nat.le_refl _) (by have := hbw.size; omega) hg4)
            refine ⟨_, by rw [← HCnt.out]; push_cast; rfl, ?_, HB2.out.trans ((HB.out.trans hb3).mono (by omega))⟩
            rw [← HFin.out]
            rw [← HFin.out] at HWfs
            exact own_ints (by rw [List.map_append, List.map_append]; exact hown4) (by rw [HFin.out, sortI_len]; omega) HWfs
        rcases a with _ | ⟨x, a⟩
        · exfalso; simp at hna0; omega
        rcases b with _ | ⟨y, b⟩
        · exfalso; simp at hnb0; omega
        clear hna0 hnb0 HN1 HN2 he
        obtain ⟨ba, oa, rfl, rfl, hca, hba, q1, hx, ht1, ht2⟩ := ints_head hia
        obtain ⟨bb, ob, rfl, rfl, hcb, hbb, q2, hy, ht3, ht4⟩ := ints_head hib
        have hx2 := hx
        have hy2 := hy
        unfold I64 at hx2 hy2
        obtain ⟨A3, c3, rfl⟩ := own_shape hown
        have HO := Lib.hid hown
        have HT1 := Lib.hid ht1
        have HT2 := Lib.hid ht2
        have HT3 := Lib.hid ht3
        have HT4 := Lib.hid ht4
        have HB := Lib.hid hbel
        have HIA := Lib.hid hia
        have HIB := Lib.hid hib
        have hla1 : (1 : Int) ≤ (a.length : Int) + 1 := by omega
        have hlb1 : (1 : Int) ≤ (b.length : Int) + 1 := by omega
        have hlo : o.length + a.length + b.length ≤ 600 := by simp at hlen; omega
        by_cases hxy : x ≤ y
        · have HM2 := Lib.hid (hM.left hxy)
          have t0 : decide (x ≤ y) = true := decide_eq_true hxy
          generalize hna : a.length = la at *
          generalize hnb : b.length = lb at *
          generalize hno : o.length = lo at *
          have HNA := Lib.hid hna
          have HNB := Lib.hid hnb
          have HNO := Lib.hid hno
          clear hown hia hib ht1 ht2 ht3 ht4 hM hbel hna hnb hno hlen hsb
          go_wp2_with fail
          go_quiet (fail)
          go_wp2_with fail
          have hcase : ca = 1 ∨ ¬ ca = 1 := by omega
          rcases hcase with hc1 | hc1
          all_goals go_region_law (refine step_pushD el_int rfl (.tmp 53) (.tmp 57) rfl w2.heap.size (.slice A3 lo c3) lo _ ((show (wr.drewN _).drew.ownsRow _ _ _ _ _ _ from HO.out).alloc _) (by simp [Act.eval, Act.put]) wr.heap.size 1 (.int .i64 x) (by simp [Act.eval, Act.put]) (new_cell rfl) rfl (by omega) (by omega) (by simp; omega) ?_; intro v' w3 hown3 hg3 hl3; obtain ⟨A4, c4, rfl⟩ := own_shape hown3)
          all_goals simp only [Act.put, List.getElem_toArray, List.getElem_cons_succ, List.getElem_cons_zero, Array.set!_eq_setIfInBounds, List.setIfInBounds_toArray, List.set_cons_succ, List.set_cons_zero]
          all_goals go_wp2_with fail
          all_goals
            have hbw := below_push (((((Drawn.refl wr).drewN nq).below w2.heap.size).drew).alloc hsz (.cells #[.int .i64 x] 3)) ((show (wr.drewN nq).drew.ownsRow _ _ _ _ _ _ from HO.out).alloc _) (Nat.le_refl _) (by simp; omega) hg3
          · exact ⟨⟨o ++ [x], a, y :: b, s, _, _, _, _, _, _, rfl, rfl, (HT2.out hc1).below hbw, HIB.out.below hbw, by rw [List.length_append, HNO.out, List.map_append]; exact hown3, rfl, HM2.out, HB.out.trans hbw⟩, by simp⟩
          · exact ⟨⟨o ++ [x], a, y :: b, s, _, _, _, _, _, _, rfl, rfl, (HT1.out (by omega)).below hbw, HIB.out.below hbw, by rw [List.length_append, HNO.out, List.map_append]; exact hown3, rfl, HM2.out, HB.out.trans hbw⟩, by simp⟩
        · have HM2 := Lib.hid (hM.right hxy)
          have t0 : decide (x ≤ y) = false := decide_eq_false hxy
          generalize hna : a.length = la at *
          generalize hnb : b.length = lb at *
          generalize hno : o.length = lo at *
          have HNA := Lib.hid hna
          have HNB := Lib.hid hnb
          have HNO := Lib.hid hno
          clear hown hia hib ht1 ht2 ht3 ht4 hM hbel hna hnb hno hlen hsb
          go_wp2_with fail
          go_quiet (fail)
          go_wp2_with fail
          have hcase : cb = 1 ∨ ¬ cb = 1 := by omega
          rcases hcase with hc1 | hc1
          all_goals go_region_law (refine step_pushD el_int rfl (.tmp 61) (.tmp 65) rfl w2.heap.size (.slice A3 lo c3) lo _ ((show (wr.drewN _).drew.ownsRow _ _ _ _ _ _ from HO.out).alloc _) (by simp [Act.eval, Act.put]) wr.heap.size 1 (.int .i64 y) (by simp [Act.eval, Act.put]) (new_cell rfl) rfl (by omega) (by omega) (by simp; omega) ?_; intro v' w3 hown3 hg3 hl3; obtain ⟨A4, c4, rfl⟩ := own_shape hown3)
          all_goals simp only [Act.put, List.getElem_toArray, List.getElem_cons_succ, List.getElem_cons_zero, Array.set!_eq_setIfInBounds, List.setIfInBounds_toArray, List.set_cons_succ, List.set_cons_zero]
          all_goals go_wp2_with fail
          all_goals
            have hbw := below_push (((((Drawn.refl wr).drewN nq).below w2.heap.size).drew).alloc hsz (.cells #[.int .i64 y] 3)) ((show (wr.drewN nq).drew.ownsRow _ _ _ _ _ _ from HO.out).alloc _) (Nat.le_refl _) (by simp; omega) hg3
          · exact ⟨⟨o ++ [y], x :: a, b, s + (la + 1), _, _, _, _, _, _, rfl, rfl, HIA.out.below hbw, (HT4.out hc1).below hbw, by rw [List.length_append, HNO.out, List.map_append]; exact hown3, vint (by push_cast; omega), HM2.out, HB.out.trans hbw⟩, by simp⟩
          · exact ⟨⟨o ++ [y], x :: a, b, s + (la + 1), _, _, _, _, _, _, rfl, rfl, HIA.out.below hbw, (HT3.out (by omega)).below hbw, by rw [List.length_append, HNO.out, List.map_append]; exact hown3, vint (by push_cast; omega), HM2.out, HB.out.trans hbw⟩, by simp⟩
end Go.Proofs.Ytjnndbllaplkcaa
