/-
  Contract of slices.SortStableFunc at a row of ints of the call's own, at whatever length: the row then holds the same numbers, sorted. Conditions: the comparing function tells a strict order by classes.
-/
import Derived.Test.YtgfddolchachkaaMStabRefused11
import Derived.Test.YtgfddolchachkaaMStabRefused15
namespace Go.Proofs.Ytgfddolchachkaa
open Go Go.RowKit Go.Dam Go.Shelf Go.Sort Go.Proofs Go.Dam.Stable
set_option linter.unusedVariables false
theorem insNone (A : Option Addr) (c : Nat) (f : Value) (w : World) : Calls Try.prog 166 #[.slice A 0 c, .int .i64 0, .int .i64 0, f] w fun e w' => e = .returned (.tuple #[]) ∧ w = w' := by
  go_enter Try.func166, Try.ntmps166
  go_wp2
  go_loopw [8] (fun iv wr => iv = .int .i64 1 ∧ wr = w) (fun _ _ => 0)
  case atStart => exact ⟨rfl, rfl⟩
  case round =>
    obtain ⟨rfl, rfl⟩ := hrel
    go_wp2
    go_end0
    exact ⟨rfl, rfl⟩
theorem stableNone (A : Option Addr) (c : Nat) (f : Value) (w : World) : Calls Try.prog 145 #[.slice A 0 c, .int .i64 0, f] w fun e w' => e = .returned (.tuple #[]) ∧ w = w' := by
  have HI := Lib.hid insNone
  go_enter Try.func145, Try.ntmps145
  go_wp2
  go_loopw [7, 8] (fun av bv wr => av = .int .i64 0 ∧ bv = .int .i64 20 ∧ wr = w) (fun _ _ _ => 0)
  case atStart => exact ⟨rfl, rfl, rfl⟩
  case round =>
    obtain ⟨rfl, rfl, rfl⟩ := hrel
    go_wp2_with (go_at_call 166; refine (HI.out _ _ _ _).mono ?_; rintro e w' ⟨rfl, rfl⟩)
    go_loopw [6, 7, 8, 9] (fun sv _ _ _ w2 => sv = .int .i64 20 ∧ w2 = wr) (fun _ _ _ _ _ => 0)
    case atStart => exact ⟨rfl, rfl⟩
    case round =>
      obtain ⟨rfl, rfl⟩ := hrel
      go_wp2
      go_end0
      exact ⟨rfl, rfl⟩
theorem sortNone (A : Option Addr) (c : Nat) (f : Value) (w : World) : Calls Try.prog 107 #[.slice A 0 c, f] w fun e w' => e = .returned (.tuple #[]) ∧ w = w' := by
  have HI := Lib.hid stableNone
  go_enter Try.func107, Try.ntmps107
  go_wp2_with (go_at_call 145; refine (HI.out _ _ _ _).mono ?_; rintro e w' ⟨rfl, rfl⟩)
  go_end0
  exact ⟨rfl, rfl⟩
set_option maxHeartbeats 400000 in
theorem sortStableFunc_own {w : World} {base n c : Nat} {A : Option Addr} {l : List Int} (h : w.ownsRow base 3 1 (.slice A n c) n (l.map (Value.int .i64))) (hn : n ≤ 1000000) (ok : Int → Prop) (hok : ∀ z ∈ l, ok z) (cf : Int → Int → Int) (hO : SWO (fun x y : OkF ok => decide (cf x.1 y.1 < 0))) (g : Nat) (lb : Array Value)
    (eg : ∀ args w, (callFunc g args).run Try.prog w = .ok (.enter g args) w) (hcmp : CmpAt ok g lb cf base n (.slice A n c) w) :
    Calls Try.prog 107 #[.slice A n c, .func (.func g) #[] lb] w fun e w' => e = .returned (.tuple #[]) ∧ ∃ r : List Int, r.Perm l ∧ SortedBy cf r ∧ w'.ownsRow base 3 1 (.slice A n c) n (r.map (Value.int .i64)) ∧ w.grownBy w' (Value.slice A n c).ownBlock := by
  have hl : l.length = n := by have := h.1; simpa using this
  by_cases h1 : 1 ≤ n
  · obtain ⟨g0, cap, hv, hbase, hblt⟩ := h.form (by omega)
    rcases h.2 with ⟨hx, _⟩ | ⟨g1, cap1, cur, hv1, hb1, hb, k1, k2, k3, k4⟩
    · rw [hx] at hv; cases hv
    obtain ⟨rfl, rfl⟩ : A = some ⟨g1, 0, none⟩ ∧ c = cap1 := by injection hv1 with a b c; exact ⟨a, c⟩
    subst hl
    obtain ⟨lB, hlB⟩ : ∃ lB : List (OkF ok), lB.map (·.1) = l := ⟨l.attachWith ok hok, by simp⟩
    have hlen : lB.length = l.length := by rw [← hlB, List.length_map]
    have hin : Inhabited (OkF ok) := ⟨lB.get ⟨0, by omega⟩⟩
    have hEl : lB.map encF = l.map (Value.int .i64) := by rw [encF_list, hlB]
    have hH : Sort.Holds encF w g1 0 lB.toArray := holds_blockE hb (by rw [hlen, hEl]; simpa using k4)
    have hg1 : g1 < w.heap.size := (Array.getElem?_eq_some_iff.1 hb).1
    have hCL : CmpLays1 Try.prog g lb encF (fun x y : OkF ok => cf x.1 y.1) g1 0 lB.toArray.size w := by
      intro m os dk hs x y
      have hs' : dk.toList.length = l.length := by rw [Array.length_toList, hs]; simp [hlen]
      have o1 := ownsRow_sortedE (enc := encF) (base := base) (n := m) (os := os) (ss := lB) (ts := dk.toList) (by rw [hs', hlen]) hb1 hb (by rw [hlen]; exact k1) k2 k3
      rw [hlen, encF_list, Array.toArray_toList] at o1
      have o2 := grownBy_sortedE (enc := encF) (w := w) (g := g1) (n := m) (os := os) dk
      exact hcmp _ (dk.toList.map (·.1)) (by rw [List.length_map, hs']) (fun z hz => by obtain ⟨y, _, rfl⟩ := List.mem_map.1 hz; exact y.2) o1 o2 x.1 y.1 x.2 y.2
    have hz : lB.toArray.size = l.length := by simp [hlen]
    have hS := cSortStable (T := fun x y : OkF ok => ¬ cf y.1 x.1 < 0) (cap := c) (fun x y z h1 h2 => by
        have := hO.ntrans z y x (by simpa using h2) (by simpa using h1)
        simpa using this) eg ⟨fun _ => rfl, hH, hg1⟩ hCL hz (by omega)
      (fun p q _ _ _ => by
        refine ⟨fun h h2 => ?_, fun h => by simpa [ltOf] using h⟩
        have := hO.trans _ _ _ (show decide (cf (G lB.toArray q).1 (G lB.toArray p).1 < 0) = true from h) (show decide (cf (G lB.toArray p).1 (G lB.toArray q).1 < 0) = true by simpa using h2)
        rw [hO.irrefl] at this
        cases this)
    refine hS.mono ?_
    rintro e w' ⟨rfl, d', ⟨hp, hsr⟩, hz', m, os, rfl⟩
    have hs' : d'.toList.length = l.length := by rw [Array.length_toList, hz']
    have o1 := ownsRow_sortedE (enc := encF) (base := base) (n := m) (os := os) (ss := lB) (ts := d'.toList) (by rw [hs', hlen]) hb1 hb (by rw [hlen]; exact k1) k2 k3
    rw [hlen, encF_list, Array.toArray_toList] at o1
    refine ⟨rfl, _, ?_, ?_, o1, grownBy_sortedE d'⟩
    · rw [← hlB]
      refine List.Perm.map _ ?_
      have h5 := hp.2.2
      have e1 : d'.extract 0 l.length = d' := by rw [← hz', Array.extract_size]
      have e2 : lB.toArray.extract 0 l.length = lB.toArray := by rw [← hz, Array.extract_size]
      rw [e1, e2] at h5
      simpa using h5
    · intro u v huv hv
      rw [List.length_map, hs'] at hv
      have h6 := hsr u v (Nat.zero_le _) huv hv
      have e1 : ∀ k, k < d'.size → (d'.toList.map (·.1)).getD k 0 = d'[k]!.1 := fun k hk => by
        rw [List.getD_eq_getElem?_getD, List.getElem?_map, List.getElem?_eq_getElem (by simpa using hk), getElem!_pos d' k hk]; simp
      rw [e1 u (by omega), e1 v (by omega)]
      exact h6
  · obtain rfl : n = 0 := by omega
    obtain rfl : l = [] := List.eq_nil_of_length_eq_zero hl
    refine (sortNone A c _ w).mono ?_
    rintro e w' ⟨rfl, rfl⟩
    exact ⟨rfl, [], List.Perm.refl _, fun u v _ hv => absurd hv (by simp), h, ⟨rfl, rfl, rfl, Nat.le_refl _, fun _ _ _ => rfl⟩⟩
end Go.Proofs.Ytgfddolchachkaa
