/-
  Contract of sort.SliceStable at a row of ints of the call's own, at whatever length: the row then holds what a stable sort leaves. Conditions: the function handed over reads two places of the row and tells a strict order by classes.
-/
import Derived.Test.YthiccmncdmohbaaGreatMGridTops34
import Derived.Test.YthiccmncdmohbaaGreatMGridTops00
import Derived.Test.YthiccmncdmohbaaGreatMGridTops09
import Derived.Test.YthiccmncdmohbaaGreatShelf
set_option linter.unusedVariables false
set_option linter.unusedSimpArgs false
namespace Go.Proofs
open Go.Shelf Go.RowKit Go.Lib Go.Sort Go.Dam.Stable
set_option linter.unusedVariables false
variable {P : Program} {ρ : Ren} {α : Type} [Inhabited α]
theorem St.sliceStable_any {T : α → α → Prop} (tr : ∀ x y z, T x y → T y z → T x z) (L : LaysGt.n8 P ρ) (t e : TypeId) (i ie : TypeInfo) (hi : P.info? t = some i) (hd : i.desc = .slice e) (hpk : P.packed t = false) (hie : P.info? e = some ie) (ke : Nat) (hke : ∀ w, (Extern.Rtype.kind e).run P w = .ok ke w)
    (hs1 : ie.size = 1) (hagg : ∀ w, (isAgg e).run P w = .ok false w) (enc : α → Value) (h1 : ∀ x, (enc x).oneCell' = true) (lt : α → α → Bool) (g : Nat) (lb : Array Value)
    (eg : ∀ args w, (callFunc g args).run P w = .ok (.enter g args) w) (blk off c : Nat) (d : Array α) (h2 : 2 ≤ d.size) (hsm : d.size < 1099511627776)
    (f : Nat) (hf : P.funcs.findIdx? (·.name == "internal/reflectlite" ++ ".Swapper$" ++ toString (swapperK d.size ie ke)) = some f)
    (gS : Bool) (hx : ∀ args W, (callFunc f args).run P W = ((Extern.ReflectliteSwapper.swap gS args).run P W).andThen fun v w' => .ok (.value v) w')
    (w : World) (hless : LessLays P g lb enc lt blk off d.size w) (hH : Holds enc w blk off d) (hblk : blk < w.heap.size) (ht : Tst0 T lt (G d) 0 d.size) :
    Calls P (ρ.f 8) #[.iface t (.slice (some ⟨blk, off, none⟩) d.size c), .func (.func g) #[] lb] w fun e w' =>
      e = .returned (.tuple #[]) ∧ ∃ d', (PermIn 0 d.size d d' ∧ Srt T (G d') 0 d.size) ∧ SW enc w blk off d' w' := by
  refine Any.sort_SliceStable_of_stable L t e i ie hi hd hpk hie ke hke _ d.size c (by omega) f hf (.func g) #[] lb w _ ?_
  have hB : sliceBound P e ie ke (some ⟨blk, off, none⟩) d.size c = #[.slice (some ⟨blk, off, none⟩) d.size c, typeHandle P e] := by
    unfold sliceBound; rw [if_neg (swapperK_gt _ _ _ h2)]
  have hW : stableWorld P ρ t (some ⟨blk, off, none⟩) d.size c w = grow w #[.cells #[.slice (some ⟨blk, off, none⟩) d.size c] t, .cells #[.pointer (some ⟨P.globals.size, t, none⟩), .pointer (some ⟨w.heap.size, 0, none⟩), .int .u64 151] (ρ.t 36)] := by
    unfold stableWorld; rw [alloc_eq_grow, alloc_eq_grow, grow_grow]; rfl
  generalize (#[.cells #[.slice (some ⟨blk, off, none⟩) d.size c] t, .cells #[.pointer (some ⟨P.globals.size, t, none⟩), .pointer (some ⟨w.heap.size, 0, none⟩), .int .u64 151] (ρ.t 36)] : Array Obj) = os0 at hW
  rw [hB, hW]
  have F : Fam P g lb f #[.slice (some ⟨blk, off, none⟩) d.size c, typeHandle P e] enc lt blk off d (grow w os0) :=
    ⟨eg, hless.on ⟨0, os0, by unfold sortWorld; rw [show Sort.ahead w 0 = w from rfl, putRow_self _ _ _ _ _ hH]⟩ hblk rfl, swapSwaps_of_literal gS f hx e ie hie hs1 hagg enc h1 blk off d.size c, holds_grow enc w _ blk off d hblk hH, by rw [size_grow]; omega, hsm⟩
  have hp := St.stable_any (P := P) (ρ := ρ) tr { L with } F d.size (Nat.le_refl _) (Nat.le_refl _) ht
  refine hp.mono ?_
  rintro e w' ⟨rfl, d', hd', hz, n, os, rfl⟩
  exact ⟨rfl, d', hd', n, _, by unfold sortWorld; rw [ahead_grow, putRow_grow enc (Sort.ahead w n) _ blk off _ hblk, grow_grow]⟩
end Go.Proofs
namespace Go.Proofs.YthiccmncdmohbaaGreat
open Go Go.RowKit Go.Dam Go.Dam.Stable
set_option linter.unusedVariables false
noncomputable def stT : TypeInfo := (Tryz.prog.info? 25).get (by kernel_rfl)
noncomputable def stE : TypeInfo := (Tryz.prog.info? 3).get (by kernel_rfl)
theorem stK (n : Nat) (h2 : 2 ≤ n) : Lib.swapperK n stE 2 = 5 := by
  have a : stE.hasPointers = false := by kernel_rfl
  have b : stE.bytes = 8 := by kernel_rfl
  have c : (n == 0) = false := by simp; omega
  have d : (n == 1) = false := by simp; omega
  simp [Lib.swapperK, a, b, c, d]
/-- A number that may stand in the row. -/
abbrev OkN (ok : Int → Prop) := { z : Int // ok z }
/-- An element with its place, as a value. -/
def encT {ok : Int → Prop} (x : Nat × OkN ok) : Value := .int .i64 x.2.1
theorem encT_list {ok : Int → Prop} (d : List (Nat × OkN ok)) : d.map encT = ((d.map (·.2)).map (·.1)).map (Value.int .i64) := by rw [List.map_map, List.map_map]; rfl
theorem tagL_map {β γ : Type} (f : β → γ) (l : List β) : tagL (l.map f) = (tagL l).map fun p => (p.1, f p.2) := by
  unfold tagL
  rw [List.zipIdx_map, List.map_map, List.map_map]
  rfl
theorem stab_val {ok : Int → Prop} {lt : Int → Int → Bool} {l r : List (OkN ok)} (h : StabR (fun x y : OkN ok => lt x.1 y.1) l r) : StabR lt (l.map (·.1)) (r.map (·.1)) := by
  obtain ⟨m, h1, h2, rfl⟩ := h
  refine ⟨m.map fun p => (p.1, p.2.1), ?_, ?_, ?_⟩
  · rw [tagL_map]; exact h1.map _
  · rw [List.pairwise_map]; exact h2
  · rw [List.map_map, List.map_map]; rfl
theorem stab_short {lt : Int → Int → Bool} {l : List Int} (h : l.length ≤ 1) : StabR lt l l := by
  refine ⟨tagL l, List.Perm.refl _, ?_, (tagL_snd l).symm⟩
  have := tagL_len l
  match hm : tagL l with
  | [] => exact List.Pairwise.nil
  | [x] => exact List.pairwise_singleton _ _
  | x :: y :: m => rw [hm] at this; simp at this; omega
/-- What is asked of the function handed over: wherever the row holds some list of numbers that may stand in it, and all else is as it was, it tells the order of two places. -/
def LessAt (ok : Int → Prop) (g : Nat) (lb : Array Value) (lt : Int → Int → Bool) (base n : Nat) (v : Value) (w : World) : Prop :=
  ∀ (W : World) (l' : List Int), l'.length = n → (∀ z ∈ l', ok z) → W.ownsRow base 3 1 v n (l'.map (Value.int .i64)) → w.grownBy W v.ownBlock → ∀ i j : Nat, i < n → j < n →
    Calls Tryz.prog g (#[.int .i64 i, .int .i64 j] ++ lb) W fun e w' => e = .returned (.bool (lt (l'.getD i 0) (l'.getD j 0))) ∧ ∃ q os, w' = Sort.grow (W.drewN q) os
theorem sliceStable_own {w : World} {base n c : Nat} {A : Option Addr} {l : List Int} (h : w.ownsRow base 3 1 (.slice A n c) n (l.map (Value.int .i64))) (hn : n ≤ 1000000) (ok : Int → Prop) (hok : ∀ z ∈ l, ok z) (lt : Int → Int → Bool) (hw : Weak lt) (g : Nat) (lb : Array Value)
    (eg : ∀ args w, (callFunc g args).run Tryz.prog w = .ok (.enter g args) w) (hless : LessAt ok g lb lt base n (.slice A n c) w) :
    Calls Tryz.prog 20 #[.iface 25 (.slice A n c), .func (.func g) #[] lb] w fun e w' => e = .returned (.tuple #[]) ∧ ∃ r, StabR lt l r ∧ w'.ownsRow base 3 1 (.slice A n c) n (r.map (Value.int .i64)) ∧ w.grownBy w' (Value.slice A n c).ownBlock := by
  have hl : l.length = n := by have := h.1; simpa using this
  by_cases h2 : 2 ≤ n
  · obtain ⟨g0, cap, hv, hbase, hblt⟩ := h.form (by omega)
    rcases h.2 with ⟨hx, _⟩ | ⟨g1, cap1, cur, hv1, hb1, hb, k1, k2, k3, k4⟩
    · rw [hx] at hv; cases hv
    obtain ⟨rfl, rfl⟩ : A = some ⟨g1, 0, none⟩ ∧ c = cap1 := by injection hv1 with a b c; exact ⟨a, c⟩
    subst hl
    obtain ⟨lB, hlB⟩ : ∃ lB : List (OkN ok), lB.map (·.1) = l := ⟨l.attachWith ok hok, by simp⟩
    have hlen : lB.length = l.length := by rw [← hlB, List.length_map]
    have hin : Inhabited (OkN ok) := ⟨lB.get ⟨0, by omega⟩⟩
    have hwB : Weak (fun x y : OkN ok => lt x.1 y.1) := ⟨fun x y => hw.asym _ _, fun x y z => hw.tr _ _ _, fun x y z => hw.neg _ _ _⟩
    have hT : (tagL lB).length = l.length := by rw [tagL_len, hlen]
    have hEl : (tagL lB).map encT = l.map (Value.int .i64) := by rw [encT_list, tagL_snd, hlB]
    have hH : Sort.Holds encT w g1 0 (tagL lB).toArray := holds_blockE hb (by rw [hT, hEl]; simpa using k4)
    have hg1 : g1 < w.heap.size := (Array.getElem?_eq_some_iff.1 hb).1
    have hLR : LessLays Tryz.prog g lb encT (fun x y : Nat × OkN ok => lt x.2.1 y.2.1) g1 0 (tagL lB).toArray.size w := by
      intro m os dk hs i j hi hj
      have hs' : dk.toList.length = l.length := by rw [Array.length_toList, hs]; simp [hT]
      have o1 := ownsRow_sortedE (enc := encT) (base := base) (n := m) (os := os) (ss := tagL lB) (ts := dk.toList) (by rw [hs', hT]) hb1 hb (by rw [hT]; exact k1) k2 k3
      rw [hT, encT_list, Array.toArray_toList] at o1
      have o2 := grownBy_sortedE (enc := encT) (w := w) (g := g1) (n := m) (os := os) dk
      have hi' : i < dk.size := by rw [hs]; exact hi
      have hj' : j < dk.size := by rw [hs]; exact hj
      have hc := hless _ ((dk.toList.map (·.2)).map (·.1)) (by rw [List.length_map, List.length_map, hs']) (fun z hz => by obtain ⟨y, _, rfl⟩ := List.mem_map.1 hz; exact y.2) o1 o2 i j (by rw [← hs', Array.length_toList]; exact hi') (by rw [← hs', Array.length_toList]; exact hj')
      have e1 : ∀ k, k < dk.size → ((dk.toList.map (·.2)).map (·.1)).getD k 0 = dk[k]!.2.1 := fun k hk => by
        rw [List.getD_eq_getElem?_getD, List.getElem?_map, List.getElem?_map, List.getElem?_eq_getElem (by simpa using hk), getElem!_pos dk k hk]; simp
      rw [e1 i hi', e1 j hj'] at hc
      exact hc
    have hS := St.sliceStable_any (T := TagT (fun x y : OkN ok => lt x.1 y.1)) (TagT.tr hwB) Tryz.laysGt8 25 3 stT stE (by kernel_rfl) (by kernel_rfl) (by kernel_rfl) (by kernel_rfl) 2 (fun _ => by kernel_rfl) (by kernel_rfl) (fun _ => by kernel_rfl) encT (fun _ => rfl) (fun x y : Nat × OkN ok => lt x.2.1 y.2.1) g lb
      eg g1 0 c (tagL lB).toArray (by simp [hT]; exact h2) (by simp [hT]; omega) 54 (by rw [stK _ (by simp [hT]; exact h2)]; kernel_rfl) true
      (fun args W => run_callFunc_extern Tryz.func54 (by kernel_rfl) (by kernel_rfl) (by kernel_rfl) (e := Extern.ReflectliteSwapper.swap true) (by kernel_rfl) args W) w hLR hH hg1
      (by have := tag_tst hwB lB; simpa [tagL_len] using this)
    have hz : (tagL lB).toArray.size = l.length := by simp [hT]
    rw [hz] at hS
    change Calls Tryz.prog 20 _ _ _ at hS
    refine hS.mono ?_
    rintro e w' ⟨rfl, d', ⟨hp, hsr⟩, m, os, rfl⟩
    have hs' : d'.toList.length = l.length := by rw [Array.length_toList, hp.1]; simp [hT]
    have o1 := ownsRow_sortedE (enc := encT) (base := base) (n := m) (os := os) (ss := tagL lB) (ts := d'.toList) (by rw [hs', hT]) hb1 hb (by rw [hT]; exact k1) k2 k3
    rw [hT, encT_list, Array.toArray_toList] at o1
    have hst := stab_val (lt := lt) (stabR_of (lt := fun x y : OkN ok => lt x.1 y.1) hlen.symm hp hsr)
    rw [hlB] at hst
    exact ⟨rfl, _, hst, o1, grownBy_sortedE d'⟩
  · have key : ∀ f, Tryz.prog.funcs.findIdx? (·.name == "internal/reflectlite" ++ ".Swapper$" ++ toString (Lib.swapperK n stE 2)) = some f → _ := fun f hf =>
      Any.sort_SliceStable_tiny Tryz.laysGt8 25 3 stT stE (by kernel_rfl) (by kernel_rfl) (by kernel_rfl) (by kernel_rfl) 2 (fun _ => by kernel_rfl) A n c (by omega) f hf (.func g) #[] lb w
    have hS : Calls Tryz.prog 20 #[.iface 25 (.slice A n c), .func (.func g) #[] lb] w fun e w' => e = .returned (.tuple #[]) ∧ ∃ os, w' = Sort.grow w os := by
      rcases (show n = 0 ∨ n = 1 by omega) with rfl | rfl
      · exact key 50 (by kernel_rfl)
      · exact key 51 (by kernel_rfl)
    refine hS.mono ?_
    rintro e w' ⟨rfl, os, rfl⟩
    have hg : w.grownBy (Sort.grow w os) (Value.slice A n c).ownBlock := ⟨rfl, rfl, rfl, by simp [Sort.grow], fun k hk _ => by simp [Sort.grow, Array.getElem?_append, hk]⟩
    have hg0 : w.grownBy (Sort.grow w os) none := ⟨rfl, rfl, rfl, by simp [Sort.grow], fun k hk _ => by simp [Sort.grow, Array.getElem?_append, hk]⟩
    refine ⟨rfl, l, stab_short (by omega), h.kept hg0 ?_, hg⟩
    cases (Value.slice A n c).ownBlock with
    | none => exact .inl rfl
    | some k => exact .inr (by simp)
end Go.Proofs.YthiccmncdmohbaaGreat
