/-
  Plain laws of the text of a tree, no program in sight: a tree told forward by the stack of open nodes, and told from the end by what each node holds; both tell the same text, and just of those trees that a text can have. Conditions: none.
-/
import Derived.Test.YtlojecajonhmhaaMParenTexts10
set_option linter.unusedVariables false
set_option linter.unusedSimpArgs false
namespace Go.Dam
open Go
set_option linter.unusedVariables false
/-- What stays open under a parent, and what closes. -/
def cutL : List Nat → Int → Option (List Nat × List Nat)
  | [], p => if p = -1 then some ([], []) else none
  | a :: op, p => if p = -1 then some ([], a :: op) else if (a : Int) = p then some ([a], op) else (cutL op p).map fun x => (a :: x.1, x.2)
theorem cutL_neg (op : List Nat) : cutL op (-1) = some ([], op) := by cases op <;> simp [cutL]
theorem cutL_some {p : Int} : ∀ {op k r : List Nat}, cutL op p = some (k, r) → op = k ++ r ∧ ((p = -1 ∧ k = []) ∨ (p ≠ -1 ∧ ∃ q b, k = q ++ [b] ∧ p = ((b : Nat) : Int) ∧ ∀ a : Nat, a ∈ q → (a : Int) ≠ p))
  | [], k, r, h => by
    unfold cutL at h
    split at h
    · rename_i hp
      cases h; exact ⟨rfl, .inl ⟨hp, rfl⟩⟩
    · exact absurd h (by simp)
  | a :: op, k, r, h => by
    unfold cutL at h
    split at h
    · rename_i hp
      cases h; exact ⟨rfl, .inl ⟨hp, rfl⟩⟩
    · rename_i hp
      split at h
      · rename_i ha
        cases h; exact ⟨rfl, .inr ⟨hp, [], a, rfl, ha.symm, by simp⟩⟩
      · rename_i ha
        obtain ⟨⟨k', r'⟩, h1, h2⟩ := Option.map_eq_some_iff.1 h
        cases h2
        obtain ⟨e, g⟩ := cutL_some h1
        rcases g with ⟨g, _⟩ | ⟨g, q, b, e2, e3, e4⟩
        · exact absurd g hp
        · exact ⟨by rw [e]; rfl, .inr ⟨hp, a :: q, b, by rw [e2]; rfl, e3, by
            intro x hx
            rcases List.mem_cons.1 hx with rfl | hx
            · exact ha
            · exact e4 x hx⟩⟩
theorem cutL_none {p : Int} : ∀ {op : List Nat}, cutL op p = none → p ≠ -1 ∧ ∀ a : Nat, a ∈ op → (a : Int) ≠ p
  | [], h => by
    unfold cutL at h
    split at h
    · exact absurd h (by simp)
    · rename_i hp; exact ⟨hp, by simp⟩
  | a :: op, h => by
    unfold cutL at h
    split at h
    · exact absurd h (by simp)
    · rename_i hp
      split at h
      · exact absurd h (by simp)
      · rename_i ha
        obtain ⟨_, g⟩ := cutL_none (Option.map_eq_none_iff.1 h)
        refine ⟨hp, fun x hx => ?_⟩
        rcases List.mem_cons.1 hx with rfl | hx
        · exact ha
        · exact g x hx
theorem cutL_hit (b : Nat) (r : List Nat) : ∀ q : List Nat, b ∉ q → cutL (q ++ [b] ++ r) (b : Int) = some (q ++ [b], r)
  | [], _ => by
    show cutL (b :: r) (b : Int) = _
    unfold cutL
    rw [if_neg (by omega), if_pos rfl]; rfl
  | a :: q, h => by
    have h1 : b ∉ q := fun x => h (List.mem_cons_of_mem _ x)
    have h2 : a ≠ b := fun e => h (e ▸ List.mem_cons_self)
    show cutL (a :: (q ++ [b] ++ r)) (b : Int) = _
    unfold cutL
    rw [if_neg (by omega), if_neg (by omega), cutL_hit b r q h1]; rfl
theorem cutL_miss {op : List Nat} {p : Int} (hp : p ≠ -1) (h : ∀ a : Nat, a ∈ op → (a : Int) ≠ p) : cutL op p = none := by
  cases hc : cutL op p with
  | none => rfl
  | some x =>
    obtain ⟨k, r⟩ := x
    obtain ⟨e, g⟩ := cutL_some hc
    rcases g with ⟨g, _⟩ | ⟨_, q, b, e2, e3, _⟩
    · exact absurd g hp
    · exact absurd e3.symm (h b (by rw [e, e2]; simp))
/-- The text, told forward. -/
def runL : List Int → Nat → List Nat → Option (List UInt8)
  | [], _, op => some (List.replicate op.length 41)
  | p :: ps, i, op => match cutL op p with
    | none => none
    | some (k, r) => (runL ps (i + 1) (k ++ [i])).map fun t => List.replicate r.length 41 ++ 40 :: t
theorem runL_nil (i : Nat) (op : List Nat) : runL [] i op = some (List.replicate op.length 41) := rfl
theorem runL_bad {p : Int} {op : List Nat} (h : cutL op p = none) (ps : List Int) (i : Nat) : runL (p :: ps) i op = none := by rw [runL, h]
theorem runL_go {p : Int} {op k r : List Nat} (h : cutL op p = some (k, r)) (ps : List Int) (i : Nat) : runL (p :: ps) i op = (runL ps (i + 1) (k ++ [i])).map fun t => List.replicate r.length 41 ++ 40 :: t := by rw [runL, h]
theorem runL_some {p : Int} {ps : List Int} {i : Nat} {op : List Nat} {t : List UInt8} (h : runL (p :: ps) i op = some t) : ∃ k r t', cutL op p = some (k, r) ∧ runL ps (i + 1) (k ++ [i]) = some t' ∧ t = List.replicate r.length 41 ++ 40 :: t' := by
  cases hc : cutL op p with
  | none => rw [runL_bad hc] at h; exact absurd h (by simp)
  | some x =>
    obtain ⟨k, r⟩ := x
    rw [runL_go hc] at h
    obtain ⟨t', h1, h2⟩ := Option.map_eq_some_iff.1 h
    exact ⟨k, r, t', rfl, h1, h2.symm⟩
/-- One entry put. -/
def updL (own : Nat → List UInt8) (p : Nat) (v : List UInt8) : Nat → List UInt8 := fun a => if a = p then v else own a
theorem updL_same (own : Nat → List UInt8) (p : Nat) (v : List UInt8) : updL own p v p = v := if_pos rfl
theorem updL_ne {own : Nat → List UInt8} {p : Nat} {v : List UInt8} {a : Nat} (h : a ≠ p) : updL own p v a = own a := if_neg h
/-- A node with all that are its own. -/
def nodeL (t : List UInt8) : List UInt8 := 40 :: t ++ [41]
/-- The text, told from the end. -/
def refL : List Int → Nat → Option ((Nat → List UInt8) × List UInt8)
  | [], _ => some (fun _ => [], [])
  | p :: ps, i => match refL ps (i + 1) with
    | none => none
    | some (own, out) => if p < -1 ∨ (i : Int) ≤ p then none else if p < 0 then some (own, nodeL (own i) ++ out) else some (updL own p.toNat (nodeL (own i) ++ own p.toNat), out)
theorem refL_next {ps : List Int} {p : Int} {i : Nat} {own : Nat → List UInt8} {out : List UInt8} (h : refL ps (i + 1) = some (own, out)) :
    refL (p :: ps) i = if p < -1 ∨ (i : Int) ≤ p then none else if p < 0 then some (own, nodeL (own i) ++ out) else some (updL own p.toNat (nodeL (own i) ++ own p.toNat), out) := by rw [refL, h]
theorem refL_none {ps : List Int} {p : Int} {i : Nat} (h : refL ps (i + 1) = none) : refL (p :: ps) i = none := by rw [refL, h]
/-- What is still to come under open nodes. -/
def tailL (own : Nat → List UInt8) : List Nat → List UInt8 → List UInt8
  | [], out => out
  | a :: op, out => tailL own op (own a ++ 41 :: out)
theorem tailL_append (own : Nat → List UInt8) : ∀ (a b : List Nat) (out : List UInt8), tailL own (a ++ b) out = tailL own b (tailL own a out)
  | [], _, _ => rfl
  | x :: a, b, out => tailL_append own a b _
theorem tailL_same {own own' : Nat → List UInt8} : ∀ (a : List Nat) (out : List UInt8), (∀ x ∈ a, own x = own' x) → tailL own a out = tailL own' a out
  | [], _, _ => rfl
  | x :: a, out, h => by
    show tailL own a (own x ++ 41 :: out) = tailL own' a (own' x ++ 41 :: out)
    rw [h x List.mem_cons_self]
    exact tailL_same a _ fun y hy => h y (List.mem_cons_of_mem _ hy)
theorem tailL_none {own : Nat → List UInt8} : ∀ (a : List Nat) (out : List UInt8), (∀ x ∈ a, own x = []) → tailL own a out = List.replicate a.length 41 ++ out
  | [], _, _ => rfl
  | x :: a, out, h => by
    show tailL own a (own x ++ 41 :: out) = _
    rw [h x List.mem_cons_self, tailL_none a _ fun y hy => h y (List.mem_cons_of_mem _ hy)]
    show List.replicate a.length 41 ++ 41 :: out = _
    rw [List.length_cons, List.replicate_succ', List.append_assoc]; rfl
/-- A tree that is told forward is told from the end, the same text. -/
theorem run_ref : ∀ (ps : List Int) (i : Nat) (op : List Nat) (t : List UInt8), runL ps i op = some t → (∀ a ∈ op, a < i) → op.Nodup →
    ∃ own out, refL ps i = some (own, out) ∧ t = tailL own op out ∧ ∀ a, a < i → a ∉ op → own a = []
  | [], i, op, t, h, hlt, hnd => by
    rw [runL_nil] at h
    cases h
    exact ⟨fun _ => [], [], rfl, by rw [tailL_none op [] fun _ _ => rfl, List.append_nil], fun _ _ _ => rfl⟩
  | p :: ps, i, op, t, h, hlt, hnd => by
    obtain ⟨k, r, t', hc, h1, rfl⟩ := runL_some h
    obtain ⟨rfl, hk⟩ := cutL_some hc
    obtain ⟨hnk, hnr, hdis⟩ := List.nodup_append.1 hnd
    have hi : i ∉ k := fun hx => absurd (hlt i (List.mem_append_left _ hx)) (by omega)
    obtain ⟨own, out, e1, e2, e3⟩ := run_ref ps (i + 1) (k ++ [i]) t' h1 (by
      intro a ha
      rcases List.mem_append.1 ha with ha | ha
      · have := hlt a (List.mem_append_left _ ha); omega
      · simp at ha; omega) (List.nodup_append.2 ⟨hnk, by simp, fun a ha b hb => by simp at hb; subst hb; intro e; exact hi (e ▸ ha)⟩)
    rw [tailL_append] at e2
    replace e2 : t' = own i ++ 41 :: tailL own k out := e2
    have hr0 : ∀ a ∈ r, own a = [] := fun a ha => e3 a (by have := hlt a (List.mem_append_right _ ha); omega) (by
      intro hx
      rcases List.mem_append.1 hx with hx | hx
      · exact hdis a hx a ha rfl
      · simp at hx; have := hlt a (List.mem_append_right _ ha); omega)
    rcases hk with ⟨rfl, rfl⟩ | ⟨hp, q, b, rfl, rfl, hq⟩
    · refine ⟨own, nodeL (own i) ++ out, by rw [refL_next e1, if_neg (by omega), if_pos (by omega)], ?_, fun a ha hx => e3 a (by omega) (by
        intro h2
        rcases List.mem_append.1 h2 with h2 | h2
        · simp at h2
        · simp at h2; omega)⟩
      rw [tailL_append, tailL_none r _ hr0, e2]
      simp [tailL, nodeL]
    · have hb : b < i := hlt b (by simp)
      have hbq : b ∉ q := fun hx => hq b hx rfl
      have hbr : ∀ a ∈ r, a ≠ b := fun a ha e => hdis b (by simp) a ha e.symm
      refine ⟨updL own b (nodeL (own i) ++ own b), out, by rw [refL_next e1, if_neg (by omega), if_neg (by omega)]; simp, ?_, fun a ha hx => ?_⟩
      · rw [tailL_append, tailL_none r _ (fun a ha => by rw [updL_ne (hbr a ha)]; exact hr0 a ha), tailL_append]
        rw [tailL_append] at e2
        rw [e2, tailL_same (own := updL own b (nodeL (own i) ++ own b)) (own' := own) q out fun x hx => updL_ne (fun e => hbq (e ▸ hx))]
        simp [tailL, updL_same, nodeL]
      · have hab : a ≠ b := fun e => hx (by rw [e]; simp)
        rw [updL_ne hab]
        exact e3 a (by omega) (by
          intro h2
          rcases List.mem_append.1 h2 with h2 | h2
          · exact hx (List.mem_append_left _ h2)
          · simp at h2; omega)
end Go.Dam
