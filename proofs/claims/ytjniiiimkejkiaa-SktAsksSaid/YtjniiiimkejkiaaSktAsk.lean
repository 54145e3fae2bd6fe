/-
  Contracts of skt.Ask and the reference's SktAsk, and the walk of the law SktAsks: how often a key comes. Conditions: the arguments can be read as data.
-/
import Derived.Test.YtjniiiimkejkiaaSktMay
namespace Go.Dam
open Go
/-- The least of the first n rows' numbers of the key, or one that is greater than none. -/
def askTo (ls : List (List Int)) (key : Nat) : Nat → Int
  | 0 => 1048576
  | n + 1 => min (askTo ls key n) ((ls.getD n []).getD (placeN n key) 0)
theorem askTo_0 (ls : List (List Int)) (key : Nat) : askTo ls key 0 = 1048576 := rfl
theorem askTo_succ (ls : List (List Int)) (key n : Nat) : askTo ls key (n + 1) = min (askTo ls key n) ((ls.getD n []).getD (placeN n key) 0) := rfl
attribute [irreducible] askTo
def SktAskR (ls : List (List Int)) (key r c : Int) : Prop :=
  (sktOk ls = false ∧ r = 0 ∧ c = 4) ∨ (sktOk ls = true ∧ codeOk key = false ∧ r = 0 ∧ c = 2) ∨ (sktOk ls = true ∧ ∃ k : Nat, key = k ∧ k ≤ 1048576 ∧ r = askTo ls k ls.length ∧ c = 0)
theorem SktAskR.ex (ls : List (List Int)) (key : Int) : ∃ r c, SktAskR ls key r c := by
  cases h : sktOk ls with
  | false => exact ⟨_, _, .inl ⟨h, rfl, rfl⟩⟩
  | true =>
    cases h2 : codeOk key with
    | false => exact ⟨_, _, .inr (.inl ⟨h, h2, rfl, rfl⟩)⟩
    | true => have := codeOk_yes h2; exact ⟨_, _, .inr (.inr ⟨h, key.toNat, by omega, by omega, rfl, rfl⟩)⟩
end Go.Dam
namespace Go.Proofs.Ytjniiiimkejkiaa
open Go Go.RowKit Go.Dam
set_option linter.unusedVariables false
set_option maxHeartbeats 1000000 in
theorem sktAsk_any (v : Value) (ls : List (List Int)) (key r cc : Int) (w : World) (B : Nat) (h : IsRows w B v ls) (hR : SktAskR ls key r cc) :
    Calls Try.prog 18 #[v, .int .i64 key] w fun e w' => e = .returned (.tuple #[.int .i64 r, .int .i64 cc]) ∧ w = w' := by
  have HM := fun b (hb : sktOk ls = b) => sktMay_any v ls b w B h hb
  obtain ⟨A, c, vs, rfl, hc, hm, hn, hl, hr, hi⟩ := h
  rcases hR with ⟨h1, rfl, rfl⟩ | ⟨h1, h2, rfl, rfl⟩ | ⟨h1, k, rfl, hk, rfl, rfl⟩
  · have HM := Lib.hid (HM _ h1)
    clear h1 hl hr hi
    go_enter Try.func18, Try.ntmps18
    go_wp2_with (go_at_call 46; refine (HM.out).mono ?_; rintro e w1 ⟨rfl, rfl⟩)
    go_ret2
    exact ⟨rfl, rfl⟩
  · have HM := Lib.hid (HM _ h1)
    have HF := Lib.hid fun W => sktFits_any key false W h2
    clear h1 h2 hl hr hi
    go_enter Try.func18, Try.ntmps18
    go_wp2_with (first
      | (go_at_call 46; refine (HM.out).mono ?_; rintro e w1 ⟨rfl, rfl⟩)
      | (go_at_call 42; refine (HF.out _).mono ?_; rintro e w1 ⟨rfl, rfl⟩))
    go_ret2
    exact ⟨rfl, rfl⟩
  · have HM := Lib.hid (HM _ h1)
    have HF := Lib.hid fun W => sktFits_any (k : Int) true W (codeOk_of (by omega))
    obtain ⟨g1, g8, _, hrow⟩ := sktOk_yes h1
    have HI := Lib.hid hi
    have HL := Lib.hid hl
    have HRow := Lib.hid hrow
    clear h1 hl hi hrow
    go_enter Try.func18, Try.ntmps18
    go_wp2_with (first
      | (go_at_call 46; refine (HM.out).mono ?_; rintro e w1 ⟨rfl, rfl⟩)
      | (go_at_call 42; refine (HF.out _).mono ?_; rintro e w1 ⟨rfl, rfl⟩))
    go_loop [6, 19] (fun nv iv => ∃ i : Nat, i ≤ ls.length ∧ iv = .int .i64 i ∧ nv = .int .i64 (askTo ls k i)) (fun _ iv => ls.length - (intOf iv).toNat)
    case atStart => exact ⟨0, by omega, rfl, by rw [askTo_0]⟩
    case round =>
      obtain ⟨i, hi, rfl, rfl⟩ := hrel
      by_cases hlt : i < ls.length
      · obtain ⟨bk, off, rfl, hbk, hcells⟩ := IsRows.cells (c := c) HL.out hr (by omega)
        have c0 := hcells i hlt
        obtain ⟨h64, _, _⟩ := rowOk_yes (HRow.out i hlt)
        obtain ⟨A3, c3, e3, hc3, hm3, hr3⟩ := (HI.out i hlt).open_ h64
        rw [e3] at c0
        have hpl := placeN_lt i k
        obtain ⟨b3, o3, rfl, hb3, hcells3⟩ := ints_cells hr3 (by omega)
        have c3' := hcells3 (placeN i k) (by omega)
        have HS := Lib.hid (askTo_succ ls k i)
        have HP := Lib.hid fun W => sktplace_any i k W (by omega) hk
        generalize placeN i k = p at *
        generalize (ls.getD i []).getD p 0 = x at *
        generalize askTo ls k i = y at *
        clear hcells hcells3 h64 e3 hr3
        go_wp2_with (go_at_call 43; refine (HP.out _).mono ?_; rintro e w1 ⟨rfl, rfl⟩)
        go_round
        case rel => exact ⟨i + 1, by omega, by go_num, vint (by rw [HS.out]; split <;> omega)⟩
        case measure => simp [intOf]; omega
      · obtain rfl : i = ls.length := by omega
        go_wp2
        go_ret2
        exact ⟨rfl, rfl⟩
set_option maxHeartbeats 1000000 in
theorem refSktAsk_any (v : Value) (ls : List (List Int)) (key r cc : Int) (w : World) (B : Nat) (h : IsRows w B v ls) (hR : SktAskR ls key r cc) :
    Calls Try.prog 19 #[v, .int .i64 key] w fun e w' => e = .returned (.tuple #[.int .i64 r, .int .i64 cc]) ∧ w = w' := by
  have HM := fun b (hb : sktOk ls = b) => refSktMay_any v ls b w B h hb
  obtain ⟨A, c, vs, rfl, hc, hm, hn, hl, hr, hi⟩ := h
  rcases hR with ⟨h1, rfl, rfl⟩ | ⟨h1, h2, rfl, rfl⟩ | ⟨h1, k, rfl, hk, rfl, rfl⟩
  · have HM := Lib.hid (HM _ h1)
    clear h1 hl hr hi
    go_enter Try.func19, Try.ntmps19
    go_wp2_with (go_at_call 47; refine (HM.out).mono ?_; rintro e w1 ⟨rfl, rfl⟩)
    go_ret2
    exact ⟨rfl, rfl⟩
  · have HM := Lib.hid (HM _ h1)
    have HF := Lib.hid fun W => codeMay_any key false W h2
    clear h1 h2 hl hr hi
    go_enter Try.func19, Try.ntmps19
    go_wp2_with (first
      | (go_at_call 47; refine (HM.out).mono ?_; rintro e w1 ⟨rfl, rfl⟩)
      | (go_at_call 44; refine (HF.out _).mono ?_; rintro e w1 ⟨rfl, rfl⟩))
    go_ret2
    exact ⟨rfl, rfl⟩
  · have HM := Lib.hid (HM _ h1)
    have HF := Lib.hid fun W => codeMay_any (k : Int) true W (codeOk_of (by omega))
    obtain ⟨g1, g8, _, hrow⟩ := sktOk_yes h1
    have HI := Lib.hid hi
    have HL := Lib.hid hl
    have HRow := Lib.hid hrow
    clear h1 hl hi hrow
    go_enter Try.func19, Try.ntmps19
    go_wp2_with (first
      | (go_at_call 47; refine (HM.out).mono ?_; rintro e w1 ⟨rfl, rfl⟩)
      | (go_at_call 44; refine (HF.out _).mono ?_; rintro e w1 ⟨rfl, rfl⟩))
    go_loop [6, 18] (fun nv iv => ∃ i : Nat, ∃ y : Int, i ≤ ls.length ∧ iv = .int .i64 i ∧ nv = .int .i64 y ∧ ((i = 0 ∧ y = -1) ∨ (0 < i ∧ y = askTo ls k i ∧ 0 ≤ y))) (fun _ iv => ls.length - (intOf iv).toNat)
    case atStart => exact ⟨0, -1, by omega, rfl, rfl, .inl ⟨rfl, rfl⟩⟩
    case round =>
      obtain ⟨i, y, hi, rfl, rfl, hy⟩ := hrel
      by_cases hlt : i < ls.length
      · obtain ⟨bk, off, rfl, hbk, hcells⟩ := IsRows.cells (c := c) HL.out hr (by omega)
        have c0 := hcells i hlt
        obtain ⟨h64, _, hbd⟩ := rowOk_yes (HRow.out i hlt)
        obtain ⟨A3, c3, e3, hc3, hm3, hr3⟩ := (HI.out i hlt).open_ h64
        rw [e3] at c0
        have hpl := placeN_lt i k
        obtain ⟨b3, o3, rfl, hb3, hcells3⟩ := ints_cells hr3 (by omega)
        have c3' := hcells3 (placeN i k) (by omega)
        have hS := askTo_succ ls k i
        have hxb := hbd (placeN i k)
        have HP := Lib.hid fun W => refSktPlace_any (i : Int) (k : Int) (placeN i k : Nat) 0 W (.inl ⟨by omega, by omega, by omega, by omega, by simp, rfl⟩)
        generalize placeN i k = p at *
        generalize (ls.getD i []).getD p 0 = x at *
        have HX0 : Hid (i = 0 → x = askTo ls k (i + 1)) := Lib.hid fun h => by subst h; rw [hS, askTo_0]; omega
        have HX1 : Hid (0 < i → y = askTo ls k i → x < y → x = askTo ls k (i + 1)) := Lib.hid fun _ h2 h3 => by rw [hS, ← h2]; omega
        have HX2 : Hid (0 < i → y = askTo ls k i → ¬ x < y → y = askTo ls k (i + 1)) := Lib.hid fun _ h2 h3 => by rw [hS, ← h2]; omega
        clear hcells hcells3 h64 e3 hr3 hS hbd
        rcases hy with ⟨rfl, rfl⟩ | ⟨g0, hyy, hy0⟩
        · have HX := Lib.hid (HX0.out rfl)
          rw [Nat.add_zero] at c0
          clear HX0 HX1 HX2
          go_wp2_with (go_at_call 45; refine (HP.out _).mono ?_; rintro e w1 ⟨rfl, rfl⟩)
          go_round
          case rel => exact ⟨1, x, by omega, by go_num, rfl, .inr ⟨by omega, HX.out, by omega⟩⟩
          case measure => simp [intOf]; omega
        · by_cases hxy : x < y
          · have HX := Lib.hid (HX1.out g0 hyy hxy)
            have t0 : decide (y < 0) = false := by simp; omega
            clear HX0 HX1 HX2 hyy
            go_wp2_with (go_at_call 45; refine (HP.out _).mono ?_; rintro e w1 ⟨rfl, rfl⟩)
            go_round
            case rel => exact ⟨i + 1, x, by omega, by go_num, rfl, .inr ⟨by omega, HX.out, by omega⟩⟩
            case measure => simp [intOf]; omega
          · have HX := Lib.hid (HX2.out g0 hyy hxy)
            have t0 : decide (y < 0) = false := by simp; omega
            have t1 : decide (x < y) = false := by simp; omega
            clear HX0 HX1 HX2 hyy
            go_wp2_with (go_at_call 45; refine (HP.out _).mono ?_; rintro e w1 ⟨rfl, rfl⟩)
            go_round
            case rel => exact ⟨i + 1, y, by omega, by go_num, rfl, .inr ⟨by omega, HX.out, by omega⟩⟩
            case measure => simp [intOf]; omega
      · obtain rfl : i = ls.length := by omega
        have HE : Hid (y = askTo ls k ls.length) := Lib.hid (by rcases hy with ⟨h, _⟩ | ⟨_, h, _⟩ <;> first | exact h | omega)
        clear hy
        go_wp2
        go_ret2
        exact ⟨ret2 (vint HE.out) rfl, rfl⟩
set_option maxHeartbeats 400000 in
theorem sktAsks_walk (v u : Value) (w : World) (h : ∃ ls, IsRows w w.heap.size v ls) (h' : ∃ x : Int, u = .int .i64 x ∧ I64 x) :
    Calls Try.prog 4 #[v, u] w fun e w' => e = .returned (.bool true) ∧ Below w.heap.size w w' := by
  obtain ⟨ls, h⟩ := h
  obtain ⟨x, rfl, hx⟩ := h'
  obtain ⟨r, cc, hR⟩ := SktAskR.ex ls x
  have H1 := Lib.hid (sktAsk_any v ls x r cc w _ h hR)
  have H2 := Lib.hid (refSktAsk_any v ls x r cc w _ h hR)
  obtain ⟨A, c, vs, rfl, hc, hm, hn, hl, hr, hi⟩ := h
  clear hl hr hi hR
  go_enter Try.func4, Try.ntmps4
  go_wp2_with (first
    | (go_at_call 18; refine (H1.out).mono ?_; rintro e w1 ⟨rfl, rfl⟩)
    | (go_at_call 19; refine (H2.out).mono ?_; rintro e w2 ⟨rfl, rfl⟩))
  all_goals (go_ret; exact ⟨ret_bool (by simp), Below.refl _ _⟩)
end Go.Proofs.Ytjniiiimkejkiaa
