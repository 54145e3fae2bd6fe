/-
  How an expression lies in memory, by levels: its value, and the cells of its parts. Conditions: none; nothing here names the program.
-/
import Derived.Test.YtlojecajonhmhaaGreatDoorMQueryEvals02
import Derived.Test.YtlojecajonhmhaaGreatDoorMQueryEvals00
set_option linter.unusedVariables false
set_option linter.unusedSimpArgs false
namespace Go.Dam.Q
open Go Go.RowKit Go.Dam
set_option linter.unusedVariables false
/-- The value of an expression. -/
def exV (k x0 y0 x1 y1 ww : Int) (A : Option Addr) (n c : Nat) : Value := .agg #[.int .i64 k, .int .i64 x0, .int .i64 y0, .int .i64 x1, .int .i64 y1, .int .i64 ww, .slice A n c]
/-- Seven cells that hold an expression's value. -/
def ExAt (w : World) (b o : Nat) (v : Value) : Prop := ∃ k x0 y0 x1 y1 ww A n c, v = exV k x0 y0 x1 y1 ww A n c ∧ w.cell? ⟨b, o, none⟩ = some (.int .i64 k) ∧ w.cell? ⟨b, o + 1, none⟩ = some (.int .i64 x0) ∧ w.cell? ⟨b, o + 2, none⟩ = some (.int .i64 y0) ∧ w.cell? ⟨b, o + 3, none⟩ = some (.int .i64 x1) ∧ w.cell? ⟨b, o + 4, none⟩ = some (.int .i64 y1) ∧ w.cell? ⟨b, o + 5, none⟩ = some (.int .i64 ww) ∧ w.cell? ⟨b, o + 6, none⟩ = some (.slice A n c)
/-- An expression that can be read, so many levels down. -/
def IsEx (w : World) (B : Nat) : Nat → Value → Ex → Prop
  | 0, v, .mk k x0 y0 x1 y1 ww ps => ∃ A c, v = exV k x0 y0 x1 y1 ww A ps.length c ∧ ps.length ≤ 140737488355328
  | f + 1, v, .mk k x0 y0 x1 y1 ww ps => ∃ A c, v = exV k x0 y0 x1 y1 ww A ps.length c ∧ ps.length ≤ 140737488355328 ∧ ps.length ≤ c ∧ c ≤ 9223372036854775807 ∧ (0 < ps.length → ∃ b o, A = some ⟨b, o, none⟩ ∧ b < B ∧ ∀ i, i < ps.length → ∃ v', ExAt w b (o + i * 7) v' ∧ IsEx w B f v' (ps.getD i noEx))
theorem IsEx.val {w : World} {B : Nat} {f : Nat} {v : Value} {k x0 y0 x1 y1 ww : Int} {ps : List Ex} (h : IsEx w B f v (.mk k x0 y0 x1 y1 ww ps)) : ∃ A c, v = exV k x0 y0 x1 y1 ww A ps.length c ∧ ps.length ≤ 140737488355328 := by
  cases f with
  | zero => rw [IsEx] at h; exact h
  | succ f => rw [IsEx] at h; obtain ⟨A, c, h1, h2, _⟩ := h; exact ⟨A, c, h1, h2⟩
theorem IsEx.open_ {w : World} {B : Nat} {f : Nat} {v : Value} {k x0 y0 x1 y1 ww : Int} {ps : List Ex} (h : IsEx w B (f + 1) v (.mk k x0 y0 x1 y1 ww ps)) : ∃ A c, v = exV k x0 y0 x1 y1 ww A ps.length c ∧ ps.length ≤ 140737488355328 ∧ ps.length ≤ c ∧ c ≤ 9223372036854775807 ∧ (0 < ps.length → ∃ b o, A = some ⟨b, o, none⟩ ∧ b < B ∧ ∀ i, i < ps.length → ∃ v', ExAt w b (o + i * 7) v' ∧ IsEx w B f v' (ps.getD i noEx)) := by
  rw [IsEx] at h; exact h
theorem ExAt.below {w w' : World} {B b o : Nat} {v : Value} (h : ExAt w b o v) (hb : Below B w w') (hB : b < B) : ExAt w' b o v := by
  obtain ⟨k, x0, y0, x1, y1, ww, A, n, c, rfl, h0, h1, h2, h3, h4, h5, h6⟩ := h
  have e : ∀ j, w'.cell? ⟨b, j, none⟩ = w.cell? ⟨b, j, none⟩ := fun j => hb.cell (p := ⟨b, j, none⟩) hB
  exact ⟨k, x0, y0, x1, y1, ww, A, n, c, rfl, (e _).trans h0, (e _).trans h1, (e _).trans h2, (e _).trans h3, (e _).trans h4, (e _).trans h5, (e _).trans h6⟩
theorem IsEx.below {w w' : World} {B : Nat} : ∀ {f : Nat} {v : Value} {x : Ex}, IsEx w B f v x → Below B w w' → IsEx w' B f v x
  | 0, v, .mk k x0 y0 x1 y1 ww ps, h, _ => by rw [IsEx] at h ⊢; exact h
  | f + 1, v, .mk k x0 y0 x1 y1 ww ps, h, hb => by
    rw [IsEx] at h ⊢
    obtain ⟨A, c, h1, h2, h3, h4, h5⟩ := h
    refine ⟨A, c, h1, h2, h3, h4, fun hp => ?_⟩
    obtain ⟨b, o, e1, e2, e3⟩ := h5 hp
    refine ⟨b, o, e1, e2, fun i hi => ?_⟩
    obtain ⟨v', g1, g2⟩ := e3 i hi
    exact ⟨v', g1.below hb e2, IsEx.below g2 hb⟩
theorem IsEx.more {w : World} {B B' : Nat} (hB : B ≤ B') : ∀ {f : Nat} {v : Value} {x : Ex}, IsEx w B f v x → IsEx w B' f v x
  | 0, v, .mk k x0 y0 x1 y1 ww ps, h => by rw [IsEx] at h ⊢; exact h
  | f + 1, v, .mk k x0 y0 x1 y1 ww ps, h => by
    rw [IsEx] at h ⊢
    obtain ⟨A, c, h1, h2, h3, h4, h5⟩ := h
    refine ⟨A, c, h1, h2, h3, h4, fun hp => ?_⟩
    obtain ⟨b, o, e1, e2, e3⟩ := h5 hp
    refine ⟨b, o, e1, by omega, fun i hi => ?_⟩
    obtain ⟨v', g1, g2⟩ := e3 i hi
    exact ⟨v', g1, IsEx.more hB g2⟩
/-- Fewer levels. -/
theorem IsEx.less {w : World} {B : Nat} : ∀ {f : Nat} {v : Value} {x : Ex}, IsEx w B (f + 1) v x → IsEx w B f v x
  | 0, v, .mk k x0 y0 x1 y1 ww ps, h => by obtain ⟨A, c, h1, h2, _⟩ := h.open_; rw [IsEx]; exact ⟨A, c, h1, h2⟩
  | f + 1, v, .mk k x0 y0 x1 y1 ww ps, h => by
    obtain ⟨A, c, h1, h2, h3, h4, h5⟩ := h.open_
    rw [IsEx]
    refine ⟨A, c, h1, h2, h3, h4, fun hp => ?_⟩
    obtain ⟨b, o, e1, e2, e3⟩ := h5 hp
    refine ⟨b, o, e1, e2, fun i hi => ?_⟩
    obtain ⟨v', g1, g2⟩ := e3 i hi
    exact ⟨v', g1, IsEx.less g2⟩
attribute [irreducible] IsEx
end Go.Dam.Q
