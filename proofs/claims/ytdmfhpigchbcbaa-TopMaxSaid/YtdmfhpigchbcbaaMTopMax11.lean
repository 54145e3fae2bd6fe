/-
  Plain words of the law TopMax, and the contract of damasktop's copied. Conditions: the argument can be read as data.
-/
import Derived.Test.YtdmfhpigchbcbaaMTopMax07
import Derived.Test.YtdmfhpigchbcbaaMTopMax00
import Derived.Test.YtdmfhpigchbcbaaMTopMax10
namespace Go.Dam
open Go Go.RowKit Go.Proofs.Ytdmfhpigchbcbaa
set_option linter.unusedVariables false
/-- The numbers of the law. -/
def topNs (l : List Int) : List Int := pickL l (min l.length 80) 200 ++ [4]
theorem topNs_len (l : List Int) : (topNs l).length = min l.length 80 + 1 := by
  unfold topNs; rw [List.length_append, pickL_len (by omega)]; rfl
theorem topNs_bd (l : List Int) {j : Nat} (h : j < (topNs l).length) : 0 ≤ (topNs l).getD j 0 ∧ (topNs l).getD j 0 ≤ 199 := by
  have hm : (topNs l).getD j 0 ∈ topNs l := by rw [List.getD_eq_getElem?_getD, List.getElem?_eq_getElem h]; exact List.getElem_mem h
  generalize (topNs l).getD j 0 = x at hm
  unfold topNs pickL at hm
  rcases List.mem_append.1 hm with hm | hm
  · obtain ⟨y, _, rfl⟩ := List.mem_map.1 hm
    omega
  · simp at hm; omega
attribute [irreducible] topNs
/-- The least of the numbers turned. -/
theorem seg_least (ns low : List Int) (i k : Nat) (hik : i ≤ k) (hk : k < ns.length) (hlow : ∀ j, j < ns.length → low.getD j 0 = -ns.getD j 0) :
    repT low [3, (i : Int), (k : Int), 0] ns.length 1 = [0, -ns.getD (topF (fun j => ns.getD j 0) i (k - i)) 0] := by
  have hb : badT [3, (i : Int), (k : Int), 0] ns.length 0 = 0 := by
    unfold badT
    show opBad (ns.length : Int) 3 (i : Int) (k : Int) 0 = 0
    exact opBad_ok (by omega) (by omega)
  have hv : valT low [3, (i : Int), (k : Int), 0] ns.length 0 = -ns.getD (topF (fun j => ns.getD j 0) i (k - i)) 0 := by
    unfold valT
    rw [if_pos hb]
    show (if (3 : Int) = 3 then leastF (nowT low [3, (i : Int), (k : Int), 0] ns.length 0) (i : Int).toNat ((k : Int).toNat - (i : Int).toNat) else _) = _
    rw [if_pos rfl, Int.toNat_natCast, Int.toNat_natCast, ← leastF_neg (fun j => ns.getD j 0)]
    exact leastF_congr _ fun j _ _ => by rw [nowT_0]; exact hlow j (by omega)
  rw [repT_succ, repT_0, hb, hv]; rfl
/-- The numbers, turned. -/
def negL (l : List Int) (m : Nat) : List Int := (l.take m).map fun x => -x
theorem negL_succ {l : List Int} {i : Nat} (h : i < l.length) : negL l (i + 1) = negL l i ++ [-l.getD i 0] := by
  unfold negL
  rw [List.take_succ_eq_append_getElem h, List.map_append, List.getD_eq_getElem?_getD, List.getElem?_eq_getElem h]; rfl
theorem negL_len {l : List Int} {i : Nat} (h : i ≤ l.length) : (negL l i).length = i := by unfold negL; rw [List.length_map, List.length_take]; omega
theorem negL_at {l : List Int} {j : Nat} (h : j < l.length) : (negL l l.length).getD j 0 = -l.getD j 0 := by
  unfold negL
  rw [List.take_length, List.getD_eq_getElem?_getD, List.getElem?_map, List.getElem?_eq_getElem h, List.getD_eq_getElem?_getD, List.getElem?_eq_getElem h]; rfl
theorem flat4_new (w : World) (t : TypeId) {a b c d : Int} (ha : I64 a) (hb : I64 b) (hc : I64 c) (hd : I64 d) : IsFlat 4 (w.alloc (.cells #[.int .i64 a, .int .i64 b, .int .i64 c, .int .i64 d] t)) (w.heap.size + 1) (.slice (some ⟨w.heap.size, 0, none⟩) 1 1) 1 [a, b, c, d] := by
  refine ⟨_, 1, rfl, Nat.le_refl _, by decide, by decide, rfl, ⟨rfl, fun _ => ⟨_, rfl, Nat.lt_succ_self _, fun j u hu => ?_⟩⟩, fun z hz => int_wf ?_⟩
  · rw [add_zero_addr, cell_of_row _ _ j _ _ _ (heap_alloc_new w _), ← hu]; simp
  · simp only [List.mem_cons, List.not_mem_nil, or_false] at hz
    rcases hz with rfl | rfl | rfl | rfl <;> assumption
end Go.Dam
namespace Go.Proofs.Ytdmfhpigchbcbaa
open Go Go.RowKit Go.Dam
set_option linter.unusedVariables false
theorem copied_any (v : Value) (l : List Int) (w : World) (B : Nat) (hB : B ≤ w.heap.size) (h : IsInts .i64 w B v l) (hl : l.length ≤ 1000) :
    Calls Try.prog 8 #[v] w fun e w' => ∃ u, e = .returned u ∧ IsInts .i64 w' w'.heap.size u l ∧ Below w.heap.size w w' := by
  obtain ⟨A, c, rfl, hc, hm, hn, hr, hw⟩ := h
  have HRd := Lib.hid hr
  have HW := Lib.hid hw
  clear hr hw
  go_enter Try.func8, Try.ntmps8
  go_wp2_with (at_builtin; refine wpList_copyReads el_int rfl _ _ rfl rfl B A l.length c _ HRd.out rfl (fun y hy => by obtain ⟨z, _, rfl⟩ := List.mem_map.1 hy; rfl) (by omega) (by omega) ?_; intro v2 w2 hown2 hg2; have HO2 := Lib.hid hown2; have HG2 := Lib.hid hg2; obtain ⟨A2, c2, rfl⟩ := own_shape hown2; clear hown2 hg2)
  go_ret
  exact ⟨_, rfl, own_ints HO2.out hn HW.out, (Below.refl _ _).grown HG2.out (Nat.le_refl _) (fun k e => by cases e)⟩
end Go.Proofs.Ytdmfhpigchbcbaa
