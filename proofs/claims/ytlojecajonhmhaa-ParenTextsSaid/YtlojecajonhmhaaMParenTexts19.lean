/-
  Contract of the reference's ParenTree: of each node its parent; and the walk of the law ParenTrees. Conditions: a text that can be read.
-/
import Derived.Test.YtlojecajonhmhaaMParenTexts18
set_option linter.unusedVariables false
set_option linter.unusedSimpArgs false
namespace Go.Dam
open Go Go.RowKit
set_option linter.unusedVariables false
theorem own_drewN {w : World} {base : Nat} {e : TypeId} {size n : Nat} {v : Value} {xs : List Value} (h : w.ownsRow base e size v n xs) (k : Nat) : (w.drewN k).ownsRow base e size v n xs := h
/-- The open places as values. -/
def placesV (f : Nat → Nat) (i : Nat) : List Value := (opensL f i).map natV
theorem placesV_len (f : Nat → Nat) (i : Nat) : (placesV f i).length = opn f i := by unfold placesV; rw [List.length_map, opensL_len]
theorem placesV_0 (f : Nat → Nat) : placesV f 0 = [] := by unfold placesV; rw [opensL_0]; rfl
theorem placesV_yes {f : Nat → Nat} {i : Nat} (h : f i = 40) : placesV f (i + 1) = placesV f i ++ [.int .i64 (i : Int)] := by unfold placesV; rw [opensL_yes h, List.map_append]; rfl
theorem placesV_no {f : Nat → Nat} {i : Nat} (h : f i ≠ 40) : placesV f (i + 1) = placesV f i := by unfold placesV; rw [opensL_no h]
theorem placesV_at {f : Nat → Nat} {n t : Nat} (h : t < opn f n) : ∃ p : Nat, p < n ∧ f p = 40 ∧ opn f p = t ∧ (placesV f n)[t]? = some (.int .i64 (p : Int)) := by
  obtain ⟨p, h1, h2, h3, h4⟩ := opensL_at f n t h
  refine ⟨p, h1, h2, h3, ?_⟩
  unfold placesV
  rw [List.getElem?_map, List.getElem?_eq_getElem (by rw [opensL_len]; exact h)]
  rw [List.getD_eq_getElem?_getD, List.getElem?_eq_getElem (by rw [opensL_len]; exact h)] at h4
  simp only [Option.getD_some] at h4
  rw [h4]; rfl
attribute [irreducible] placesV
/-- The parent that was found among the first m places. -/
def foundP (q m : Nat) : Int := if q < m then (q : Int) else -1
theorem foundP_0 (q : Nat) : foundP q 0 = -1 := rfl
theorem foundP_hit (q : Nat) : foundP q (q + 1) = q := by unfold foundP; rw [if_pos (by omega)]
theorem foundP_miss {q m : Nat} (h : m ≠ q) : foundP q (m + 1) = foundP q m := by unfold foundP; split <;> split <;> omega
theorem foundP_end {q m : Nat} (h : q < m) : foundP q m = q := by unfold foundP; rw [if_pos h]
attribute [irreducible] foundP
end Go.Dam
namespace Go.Proofs.Ytlojecajonhmhaa
open Go Go.RowKit Go.Dam
set_option linter.unusedVariables false
set_option maxHeartbeats 1000000 in
theorem refParenTree_any (s : ByteArray) (l : List Int) (cc : Int) (w : World) (hs : s.size ≤ 140737488351232) (hR : TreeAns s l cc) :
    Calls Try.prog 23 #[.string s] w (GivesInts l cc w) := by
  rcases hR with ⟨rfl, hs4, hbr, hT⟩ | ⟨h0, hC, rfl⟩
  rotate_left
  · have HC := Lib.hid (parenFault_any s cc w hs hC)
    have t0 : (cc != 0) = true := by simpa using h0
    clear hC h0
    go_enter Try.func23, Try.ntmps23
    go_wp2_with (go_at_call 33; refine (HC.out).mono ?_; rintro e w1 ⟨rfl, rfl⟩)
    go_ret2
    exact ⟨_, rfl, isInts_nil _ _ _, Below.refl _ _⟩
  have HC := Lib.hid (parenFault_any s 0 w hs (.inr (.inr ⟨hs4, hbr, rfl⟩)))
  have HBr := Lib.hid hbr
  have HT := Lib.hid hT
  have hlN : Hid (l.length = opn (chr s) s.size) := Lib.hid hT.1
  have hN4 : opn (chr s) s.size ≤ 400 := by have := opn_le (chr s) s.size; omega
  have HAsk : Hid (∀ p : Nat, p < s.size → chr s p = 40 → ∃ (r c : Int), EncloseR s p r c ∧ ((c = 0 ∧ ∃ e : Nat, r = e ∧ e < p ∧ chr s e = 40 ∧ ParR (chr s) p (opn (chr s) e)) ∨ (c = 7 ∧ ParR (chr s) p (-1)))) := Lib.hid fun p hp ho => by
    obtain ⟨r, c, h⟩ := EncOf.ex (chr s) p
    obtain ⟨b, hb, hm⟩ := HBr.out.right hp ho
    exact ⟨r, c, .inr (.inr ⟨.inr (.inr ⟨hs4, HBr.out, rfl⟩), p, p, b, rfl, hp, hb, ⟨hm, .inl rfl⟩, h⟩), ParR.of_enc h⟩
  clear hbr hT
  go_enter Try.func23, Try.ntmps23
  go_wp2_with (go_at_call 33; refine (HC.out).mono ?_; rintro e w1 ⟨rfl, rfl⟩)
  go_loopw [5, 6] (fun pv iv wr => ∃ i : Nat, i ≤ s.size ∧ iv = .int .i64 i ∧ wr.ownsRow w.heap.size 3 1 pv (opn (chr s) i) (placesV (chr s) i) ∧ Below w.heap.size w wr) (fun _ iv _ => s.size - (intOf iv).toNat)
  case atStart => exact ⟨0, by omega, rfl, by rw [placesV_0, opn_0]; exact World.ownsRow_nil _ _ _ _, Below.refl _ _⟩
  case round =>
    obtain ⟨i, hi, rfl, hown, hbel⟩ := hrel
    have hon := opn_le (chr s) i
    have hz := hbel.size
    obtain ⟨A2, cap2, rfl⟩ := own_shape hown
    have HO := Lib.hid hown
    have HB := Lib.hid hbel
    by_cases hlt : i < s.size
    · have hch := chr_at hlt
      by_cases h40 : chr s i = 40
      · have t0 : ((s[i].toNat : Int) == 40) = true := by rw [hch, h40]; rfl
        have H1 := Lib.hid (opn_yes h40)
        have H2 := Lib.hid (placesV_yes h40)
        clear hown hbel hch h40
        generalize opn (chr s) i = q at *
        go_wp2_with (at_builtin; refine wpList_pushD el_int rfl (.tmp 30) (.tmp 32) rfl w.heap.size _ q _ (HO.out.alloc _) rfl wr.heap.size 1 _ rfl (by simp; rfl) rfl (by omega) (by omega) (by simp; omega) ?_; intro v2 w2 hown2 hg2 hl2)
        go_roundw
        case rel => exact ⟨i + 1, by omega, by go_num, by rw [H1.out, H2.out]; exact hown2, below_push (HB.out.alloc hz _) (HO.out.alloc _) (Nat.le_refl _) (by simp; omega) hg2⟩
        case measure => simp [intOf]; omega
      · have t0 : ((s[i].toNat : Int) == 40) = false := by rw [hch, beq_eq_false_iff_ne]; omega
        have H1 := Lib.hid (opn_no h40)
        have H2 := Lib.hid (placesV_no h40)
        clear hown hbel hch h40
        go_wp2_with fail
        go_roundw
        case rel => exact ⟨i + 1, by omega, by go_num, by rw [H1.out, H2.out]; exact HO.out, HB.out⟩
        case measure => simp [intOf]; omega
    · obtain rfl : i = s.size := by omega
      have HPl := Lib.hid fun t (ht : t < opn (chr s) s.size) => placesV_at ht
      clear hown hbel
      obtain ⟨wp, rfl⟩ : ∃ wp : World, wp = wr := ⟨_, rfl⟩
      generalize hN : opn (chr s) s.size = N at *
      generalize placesV (chr s) s.size = pl at *
      have HN := Lib.hid hN
      clear hN
      go_wp2_with fail
      go_loopw [7, 36] (fun ov tv wr => ∃ t : Nat, t ≤ N ∧ tv = .int .i64 t ∧ wr.ownsRow w.heap.size 3 1 ov t ((l.take t).map (Value.int .i64)) ∧ wr.ownsRow w.heap.size 3 1 (.slice A2 N cap2) N pl ∧ Apart ov (.slice A2 N cap2) ∧ Below w.heap.size w wr) (fun _ tv _ => N - (intOf tv).toNat)
      case atStart => exact ⟨0, by omega, rfl, World.ownsRow_nil _ _ _ _, HO.out, Apart.nil _, HB.out⟩
      case round =>
        obtain ⟨t, ht, rfl, hout, hpl, hap, hbel⟩ := hrel
        have hz2 := hbel.size
        obtain ⟨A3, cap3, rfl⟩ := own_shape hout
        have HOut := Lib.hid hout
        have HP := Lib.hid hpl
        have HAp := Lib.hid hap
        have HB2 := Lib.hid hbel
        by_cases hlt2 : t < N
        · obtain ⟨g, cap4, hv, _, _⟩ := hpl.form (by omega)
          obtain ⟨rfl, rfl⟩ : A2 = some ⟨g, 0, none⟩ ∧ cap2 = cap4 := by injection hv with a b c; exact ⟨a, c⟩
          obtain ⟨p, hp1, hp2, hp3, hp4⟩ := HPl.out t hlt2
          have k0 : wr.cell? ⟨g, t, none⟩ = some (.int .i64 (p : Int)) := (hpl.cellAt t (by omega)).trans hp4
          have HCells := Lib.hid fun m (hm : m < N) => hpl.cellAt m (by omega)
          obtain ⟨r, c, hE, hcase⟩ := HAsk.out p hp1 hp2
          have HE := Lib.hid fun W => refParenEnclose_any s p r c W hs hE
          have HTk := Lib.hid fun r' (hr' : ParR (chr s) p r') => HT.out.at_ hp1 hp2 hr'
          rw [hp3] at HTk
          clear hout hpl hap hbel hv hE hp4 hp3
          obtain ⟨wo, rfl⟩ : ∃ wo : World, wo = wr := ⟨_, rfl⟩
          rcases hcase with ⟨rfl, e, rfl, he1, he2, hpar⟩ | ⟨rfl, hpar⟩
          · have HTk2 := Lib.hid (HTk.out _ hpar)
            have hqN : opn (chr s) e < N := by rw [← HN.out]; exact opn_lt he2 (by omega)
            have HPe : Hid (∀ m, m < N → ∃ p : Nat, chr s p = 40 ∧ opn (chr s) p = m ∧ pl[m]? = some (.int .i64 (p : Int)) ∧ (p = e ↔ m = opn (chr s) e)) := Lib.hid fun m hm => by
              obtain ⟨p2, a1, a2, a3, a4⟩ := HPl.out m hm
              refine ⟨p2, a2, a3, a4, fun h => by rw [← a3, h], fun h => ?_⟩
              rcases Nat.lt_trichotomy p2 e with c1 | c1 | c1
              · have := opn_lt a2 c1; omega
              · exact c1
              · have := opn_lt he2 c1; omega
            clear HTk he2 hp2 hpar
            generalize opn (chr s) e = q at *
            go_wp2_with (go_at_call 34; refine (HE.out _).mono ?_; rintro e' w2 ⟨rfl, hd2⟩; obtain ⟨nd, rfl⟩ := hd2)
            go_loopw [10, 50] (fun rv mv w3 => ∃ m : Nat, m ≤ N ∧ mv = .int .i64 m ∧ rv = .int .i64 (foundP q m) ∧ w3 = wo.drewN nd) (fun _ mv _ => N - (intOf mv).toNat)
            case atStart => exact ⟨0, by omega, rfl, by rw [foundP_0], rfl⟩
            case round =>
              obtain ⟨m, hm, rfl, rfl, rfl⟩ := hrel
              by_cases hlt3 : m < N
              · obtain ⟨p2, b1, b2, b3, b4⟩ := HPe.out m hlt3
                have k1 : (wo.drewN nd).cell? ⟨g, m, none⟩ = some (.int .i64 (p2 : Int)) := (HCells.out m hlt3).trans b3
                by_cases hmq : m = q
                · subst hmq
                  have t1 : ((p2 : Int) == (e : Int)) = true := by have := b4.2 rfl; simp; omega
                  have H1 := Lib.hid (foundP_hit m)
                  clear b1 b2 b3 b4 k0
                  go_wp2_with fail
                  go_roundw
                  case rel => exact ⟨m + 1, by omega, by go_num, by rw [H1.out], by first | trivial | rfl⟩
                  case measure => simp [intOf]; omega
                · have t1 : ((p2 : Int) == (e : Int)) = false := by rw [beq_eq_false_iff_ne]; intro h; exact hmq (b4.1 (by omega))
                  have H1 := Lib.hid (foundP_miss (q := q) hmq)
                  clear b1 b2 b3 b4 k0
                  go_wp2_with fail
                  go_roundw
                  case rel => exact ⟨m + 1, by omega, by go_num, by rw [H1.out], by first | trivial | rfl⟩
                  case measure => simp [intOf]; omega
              · obtain rfl : m = N := by omega
                have H1 := Lib.hid (foundP_end hqN)
                generalize foundP q m = fp at *
                go_wp2_with ((at_builtin; refine wpList_pushD el_int rfl (.tmp 60) (.tmp 62) rfl w.heap.size _ t _ ((own_drewN HOut.out nd).alloc _) rfl wo.heap.size 1 _ rfl (new_cell rfl) rfl (by omega) (by omega) (by simp [World.drewN]; omega) ?_; intro v5 w5 hown5 hg5 hl5))
                go_roundw
                case rel =>
                  rw [H1.out] at hown5
                  refine ⟨t + 1, by omega, by go_num, ?_, ?_, ?_, ?_⟩
                  · rw [HTk2.out, List.map_append]; exact hown5
                  · exact HAp.out.kept hg5 ((own_drewN HP.out nd).alloc _)
                  · exact HAp.out.grow (by intro g' hg'; rcases hl5 g' hg' with h | h; exact .inl h; exact .inr (by simp at h; omega)) HP.out
                  · exact below_push ((below_drewN HB2.out nd).alloc hz2 _) ((own_drewN HOut.out nd).alloc _) (Nat.le_refl _) (by simp; omega) hg5
                case measure => simp [intOf]; omega
          · have HTk2 := Lib.hid (HTk.out _ hpar)
            clear HTk hp2 hpar
            go_wp2_with (first
              | (go_at_call 34; refine (HE.out _).mono ?_; rintro e' w2 ⟨rfl, hd2⟩; obtain ⟨nd, rfl⟩ := hd2)
              | (at_builtin; refine wpList_pushD el_int rfl (.tmp 60) (.tmp 62) rfl w.heap.size _ t _ ((own_drewN HOut.out nd).alloc _) rfl wo.heap.size 1 _ rfl (new_cell rfl) rfl (by omega) (by omega) (by simp [World.drewN]; omega) ?_; intro v5 w5 hown5 hg5 hl5))
            go_roundw
            case rel =>
              refine ⟨t + 1, by omega, by go_num, ?_, ?_, ?_, ?_⟩
              · rw [HTk2.out, List.map_append]; exact hown5
              · exact HAp.out.kept hg5 ((own_drewN HP.out nd).alloc _)
              · exact HAp.out.grow (by intro g' hg'; rcases hl5 g' hg' with h | h; exact .inl h; exact .inr (by simp at h; omega)) HP.out
              · exact below_push ((below_drewN HB2.out nd).alloc hz2 _) ((own_drewN HOut.out nd).alloc _) (Nat.le_refl _) (by simp; omega) hg5
            case measure => simp [intOf]; omega
        · obtain rfl : t = N := by omega
          clear hout hpl hap hbel
          go_wp2_with fail
          go_ret2
          have h2 := HOut.out
          rw [List.take_of_length_le (by rw [hlN.out]; exact Nat.le_refl _)] at h2
          exact ⟨_, rfl, own_ints h2 (by rw [hlN.out]; omega) (fun z hz => int_wf (HT.out.i64 hs4 z hz)), HB2.out⟩
end Go.Proofs.Ytlojecajonhmhaa
