/-
  Contracts of skt.Make and the reference's SktMake. Conditions: the arguments are an int and a list of ints.
-/
import Derived.Test.YtjniiiimkejkiaaSktMakePlain
import Derived.Test.YtjniiiimkejkiaaSktMakeAny
import Derived.Test.YtjniiiimkejkiaaSameRows
import Derived.Test.YtjniiiimkejkiaaOwnBlk
import Derived.Deep.RegionWith
namespace Go.Dam
/-- What Make answers. -/
def SktMakeR (rows : Int) (ks : List Int) (ls : List (List Int)) (c : Int) : Prop :=
  ((rows < 1 ∨ 8 < rows) ∧ ls = [] ∧ c = 2) ∨ (1 ≤ rows ∧ rows ≤ 8 ∧ 300 < ks.length ∧ ls = [] ∧ c = 1) ∨ (1 ≤ rows ∧ rows ≤ 8 ∧ ks.length ≤ 300 ∧ anyN (fun i => !codeOk (ks.getD i 0)) ks.length = true ∧ ls = [] ∧ c = 2) ∨
  (1 ≤ rows ∧ rows ≤ 8 ∧ ks.length ≤ 300 ∧ anyN (fun i => !codeOk (ks.getD i 0)) ks.length = false ∧ ls = cntRows ks rows.toNat ∧ c = 0)
theorem SktMakeR.ex (rows : Int) (ks : List Int) : ∃ ls c, SktMakeR rows ks ls c := by
  by_cases h : rows < 1 ∨ 8 < rows
  · exact ⟨_, _, .inl ⟨h, rfl, rfl⟩⟩
  by_cases h2 : 300 < ks.length
  · exact ⟨_, _, .inr (.inl ⟨by omega, by omega, h2, rfl, rfl⟩)⟩
  cases h3 : anyN (fun i => !codeOk (ks.getD i 0)) ks.length
  · exact ⟨_, _, .inr (.inr (.inr ⟨by omega, by omega, by omega, h3, rfl, rfl⟩))⟩
  · exact ⟨_, _, .inr (.inr (.inl ⟨by omega, by omega, by omega, h3, rfl, rfl⟩))⟩
end Go.Dam
namespace Go.Proofs.Ytjniiiimkejkiaa
open Go Go.RowKit Go.Dam
set_option linter.unusedVariables false
set_option maxHeartbeats 2000000 in
theorem sktMake_any (rows : Int) (v : Value) (ks : List Int) (ls : List (List Int)) (cc : Int) (w : World) (B : Nat) (hB : B ≤ w.heap.size) (h : IsInts .i64 w B v ks) (hR : SktMakeR rows ks ls cc) :
    Calls Try.prog 15 #[.int .i64 rows, v] w (GivesRows ls cc w) := by
  have HA := fun b (hb : anyN (fun i => !codeOk (ks.getD i 0)) ks.length = b) => sktMakeContains_any _ (fun x W _ => sktFar_any x W) v ks b w B h hb
  obtain ⟨A, c, rfl, hc, hm, hn, hr, hw⟩ := h
  rcases hR with ⟨h1, rfl, rfl⟩ | ⟨h1, h2, h3, rfl, rfl⟩ | ⟨h1, h2, h3, h4, rfl, rfl⟩ | ⟨h1, h2, h3, h4, rfl, rfl⟩
  · clear HA hr hw
    rcases h1 with h1 | h1
    · go_enter Try.func15, Try.ntmps15
      go_wp2_with fail
      go_ret2
      exact ⟨_, rfl, isRows_nil _ _, Below.refl _ _⟩
    · have t0 : decide (rows < 1) = false := by simp; omega
      go_enter Try.func15, Try.ntmps15
      go_wp2_with fail
      go_ret2
      exact ⟨_, rfl, isRows_nil _ _, Below.refl _ _⟩
  · clear HA hr hw
    have t0 : decide (rows < 1) = false := by simp; omega
    have t1 : decide (8 < rows) = false := by simp; omega
    go_enter Try.func15, Try.ntmps15
    go_wp2_with fail
    go_ret2
    exact ⟨_, rfl, isRows_nil _ _, Below.refl _ _⟩
  · have HA := Lib.hid (HA _ h4)
    clear hr hw h4
    have t0 : decide (rows < 1) = false := by simp; omega
    have t1 : decide (8 < rows) = false := by simp; omega
    go_enter Try.func15, Try.ntmps15
    go_wp2_with (go_at_call 40; refine (HA.out).mono ?_; rintro e w1 ⟨rfl, rfl⟩)
    go_ret2
    exact ⟨_, rfl, isRows_nil _ _, Below.refl _ _⟩
  · have HA := Lib.hid (HA _ h4)
    have HNo := Lib.hid (anyN_false h4)
    obtain ⟨R, rfl⟩ := Int.eq_ofNat_of_zero_le (show 0 ≤ rows by omega)
    simp only [Int.toNat_natCast]
    clear hw h4
    have t0 : decide ((R : Int) < 1) = false := by simp; omega
    have t1 : decide (8 < (R : Int)) = false := by simp; omega
    have hmkR := fun w' => run_make1 el_rows rfl R R rfl (by omega) (by omega) w'
    have hmk64 := fun w' => run_make1 el_int rfl 64 64 rfl (by omega) (by omega) w'
    rw [zerosV_eq] at hmk64
    go_enter Try.func15, Try.ntmps15
    go_wp2_with (go_at_call 40; refine (HA.out).mono ?_; rintro e w1 ⟨rfl, rfl⟩)
    clear hmkR
    go_loopw [28] (fun iv wr => ∃ r : Nat, ∃ vs : List Value, r ≤ R ∧ iv = .int .i64 r ∧ vs.length = r ∧ Blk wr w.heap.size 22 (outerV vs (R - r)) ∧ OwnRows 3 wr (w.heap.size + 1) vs (cntRows ks r) ∧ Below w.heap.size w wr) (fun iv _ => R - (intOf iv).toNat)
    case atStart => exact ⟨0, [], by omega, rfl, rfl, by rw [← outerV_start]; exact Blk.new w _ _, by rw [cntRows_0]; exact OwnRows.nil _ _ _, (Below.refl _ _).alloc (Nat.le_refl _) _⟩
    case round =>
      obtain ⟨wo, rfl⟩ : ∃ wo : World, wo = wr := ⟨_, rfl⟩
      obtain ⟨r, vs, hrR, rfl, hvs, hout, hrows, hbel⟩ := hrel
      by_cases hlt : r < R
      · obtain ⟨n, hn1⟩ : ∃ n, R - r = n + 1 := ⟨R - r - 1, by omega⟩
        rw [hn1] at hout
        have hz := hbel.size
        have hgl := hout.lt
        have hS := Lib.hid (Blk.alloc (Blk.set_ hout r (.slice (some ⟨wo.heap.size, 0, none⟩) 64 64)) (.cells (zerosV 64) 3))
        have fz := (hout.alloc (.cells (zerosV 64) 3)).frozen r
        have c0 : (wo.alloc (.cells (zerosV 64) 3)).cell? ⟨w.heap.size, r, none⟩ = some (.slice none 0 0) := by
          rw [(hout.alloc _).cell]; exact outerV_old hvs
        have HOut := Lib.hid hout
        have HRows := Lib.hid hrows
        have HB := Lib.hid hbel
        clear hout hrows hbel
        go_wp2_with fail
        go_loopw [37] (fun iv wr => ∃ m : Nat, m ≤ ks.length ∧ iv = .int .i64 m ∧ IBlk .i64 3 wr wo.heap.size (cntRow ks r m 64) ∧ Blk wr w.heap.size 22 (outerV (vs ++ [.slice (some ⟨wo.heap.size, 0, none⟩) 64 64]) n) ∧ OwnRows 3 wr (w.heap.size + 1) vs (cntRows ks r) ∧ Below w.heap.size w wr) (fun iv _ => ks.length - (intOf iv).toNat)
        case atStart =>
          refine ⟨0, by omega, rfl, ?_, ?_, ?_, (HB.out.setCell (p := ⟨w.heap.size, r, none⟩) (Nat.le_refl _) _).alloc (by simpa using hz) _⟩
          · rw [cntRow_zero]
            exact IBlk.zerosV_at 3 _ 64 _ (by simp)
          · rw [← outerV_set hvs]; exact hS.out
          · exact (HRows.out.far (p := ⟨w.heap.size, r, none⟩) HOut.out (by decide) _).alloc _
        case round =>
          clear hS fz c0
          obtain ⟨m, hmk, rfl, hrow, hout, hrows, hbel⟩ := hrel
          by_cases hlt2 : m < ks.length
          · obtain ⟨b, off, rfl, hb, hcells⟩ := ints_cells hr (by omega)
            have k0 := (hbel.cell (p := ⟨b, off + m, none⟩) (by simp; omega)).trans (hcells m hlt2)
            have ho := codeOk_yes (of_not_false (HNo.out m hlt2))
            obtain ⟨x, hx⟩ := Int.eq_ofNat_of_zero_le ho.1
            have hp : placeN r (ks.getD m 0).toNat = placeN r x := by rw [hx, Int.toNat_natCast]
            have hp64 := placeN_lt r x
            have HC := Lib.hid fun W => sktplace_any r x W (by omega) (by omega)
            have k1 : wr.cell? ⟨w.heap.size, r, none⟩ = some (.slice (some ⟨wo.heap.size, 0, none⟩) 64 64) := by rw [hout.cell]; exact outerV_at hvs
            have k2 := hrow.cell (i := placeN r x) (by rw [cntRow_length]; exact hp64)
            have f2 := hrow.frozen (placeN r x)
            have hv := cntRow_at (ks := ks) (r := r) (m := m) hp64
            have hvl := cntAt_le ks r (placeN r x) m
            have HS := hrow.set (placeN r x) ((cntRow ks r m 64).getD (placeN r x) 0 + 1)
            rw [cntRow_set hp hp64] at HS
            rw [hv] at k2 HS
            rw [hx] at k0
            have HS := Lib.hid HS
            generalize cntAt ks r (placeN r x) m = y at *
            generalize hpx : placeN r x = p at *
            have HOut2 := Lib.hid hout
            have HRows2 := Lib.hid hrows
            have HB2 := Lib.hid hbel
            clear hout hrows hbel hrow hp hv hcells ho hpx hx
            go_wp2_with fail
            go_region_with (go_at_call 43; refine (HC.out _).mono ?_; rintro e w1 ⟨rfl, rfl⟩)
            all_goals go_wp2_with fail
            all_goals go_roundw
            all_goals first | (simp [intOf]; omega) | exact ⟨m + 1, by omega, by go_num, HS.out.drew, (HOut2.out.far (p := ⟨wo.heap.size, p, none⟩) (by simp; omega) _).drew, (HRows.out.farNew HRows2.out (p := ⟨wo.heap.size, p, none⟩) (Nat.le_refl _) _).drew, (HB2.out.setCell (p := ⟨wo.heap.size, p, none⟩) hz _).drew⟩
          · obtain rfl : m = ks.length := by omega
            have HR1 := Lib.hid (hrows.iblk hrow (by omega) (cntRow_length ks r ks.length 64) (by omega))
            have HOut2 := Lib.hid hout
            have HB2 := Lib.hid hbel
            clear hout hrows hbel hrow
            go_wp2_with fail
            refine ⟨⟨r + 1, vs ++ [.slice (some ⟨wo.heap.size, 0, none⟩) 64 64], by omega, by go_num, by simp [hvs], ?_, ?_, HB2.out⟩, by simp [intOf]; omega⟩
            · rw [show R - (r + 1) = n from by omega]; exact HOut2.out
            · rw [cntRows_succ]; exact HR1.out
      · obtain rfl : r = R := by omega
        rw [Nat.sub_self, outerV_end] at hout
        have HO := Lib.hid (own_of_blk hout (Nat.le_refl _) hvs (by omega))
        have HR := Lib.hid hrows
        have HB := Lib.hid hbel
        clear hout hrows hbel
        go_wp2_with fail
        go_ret2
        refine ⟨_, rfl, ?_, HB.out⟩
        exact rows_of_own HR.out (by rw [cntRows_length]; exact HO.out) (by rw [cntRows_length]; omega) (cntRows_wf (by omega))
set_option maxHeartbeats 2000000 in
theorem refSktMake_any (rows : Int) (v : Value) (ks : List Int) (ls : List (List Int)) (cc : Int) (w : World) (B : Nat) (hB : B ≤ w.heap.size) (h : IsInts .i64 w B v ks) (hR : SktMakeR rows ks ls cc) :
    Calls Try.prog 16 #[.int .i64 rows, v] w (GivesRows ls cc w) := by
  obtain ⟨A, c, rfl, hc, hm, hn, hr, hw⟩ := h
  by_cases h1 : rows < 1 ∨ 8 < rows
  · obtain ⟨rfl, rfl⟩ : ls = [] ∧ cc = 2 := by rcases hR with ⟨_, a, b⟩ | ⟨a, b, _⟩ | ⟨a, b, _⟩ | ⟨a, b, _⟩ <;> first | exact ⟨a, b⟩ | omega
    clear hR hr hw
    rcases h1 with h1 | h1
    · go_enter Try.func16, Try.ntmps16
      go_wp2_with fail
      go_ret2
      exact ⟨_, rfl, isRows_nil _ _, Below.refl _ _⟩
    · have t0 : decide (rows < 1) = false := by simp; omega
      go_enter Try.func16, Try.ntmps16
      go_wp2_with fail
      go_ret2
      exact ⟨_, rfl, isRows_nil _ _, Below.refl _ _⟩
  obtain ⟨R, rfl⟩ := Int.eq_ofNat_of_zero_le (show 0 ≤ rows by omega)
  have hR8 : R ≤ 8 := by omega
  have t0 : decide ((R : Int) < 1) = false := by simp; omega
  have t1 : decide (8 < (R : Int)) = false := by simp; omega
  by_cases h2 : 300 < ks.length
  · obtain ⟨rfl, rfl⟩ : ls = [] ∧ cc = 1 := by rcases hR with ⟨a, _⟩ | ⟨_, _, _, a, b⟩ | ⟨_, _, a, _⟩ | ⟨_, _, a, _⟩ <;> first | exact ⟨a, b⟩ | omega
    clear hR hr hw
    go_enter Try.func16, Try.ntmps16
    go_wp2_with fail
    go_ret2
    exact ⟨_, rfl, isRows_nil _ _, Below.refl _ _⟩
  have h3 : ks.length ≤ 300 := by omega
  have HR : Hid ((anyN (fun i => !codeOk (ks.getD i 0)) ks.length = true ∧ ls = [] ∧ cc = 2) ∨ (anyN (fun i => !codeOk (ks.getD i 0)) ks.length = false ∧ ls = cntRows ks R ∧ cc = 0)) := Lib.hid (by
    rcases hR with ⟨a, _⟩ | ⟨_, _, a, _⟩ | ⟨_, _, _, a, b⟩ | ⟨_, _, _, a, b⟩
    · omega
    · omega
    · exact .inl ⟨a, b⟩
    · exact .inr ⟨a, b⟩)
  clear hR hw
  go_enter Try.func16, Try.ntmps16
  go_wp2_with fail
  go_loop [28] (fun iv => ∃ i : Nat, i ≤ ks.length ∧ iv = .int .i64 i ∧ ∀ j, j < i → codeOk (ks.getD j 0) = true) (fun iv => ks.length - (intOf iv).toNat)
  case atStart => exact ⟨0, by omega, rfl, fun j hj => absurd hj (by omega)⟩
  case round =>
    obtain ⟨i, hi, rfl, hyes⟩ := hrel
    by_cases hlt : i < ks.length
    · obtain ⟨b, off, rfl, hb, hcells⟩ := ints_cells hr (by omega)
      have k0 := hcells i hlt
      cases hp : codeOk (ks.getD i 0) with
      | true =>
        have HC := Lib.hid fun W => codeMay_any (ks.getD i 0) true W hp
        have HY : Hid (∀ j, j < i + 1 → codeOk (ks.getD j 0) = true) := Lib.hid fun j hj => by
          rcases Nat.lt_or_ge j i with g | g
          · exact hyes j g
          · rw [show j = i from by omega]; exact hp
        generalize ks.getD i 0 = x at *
        clear hcells hyes hp
        go_wp2_with (go_at_call 44; refine (HC.out _).mono ?_; rintro e w1 ⟨rfl, rfl⟩)
        go_round
        case rel => exact ⟨i + 1, by omega, by go_num, HY.out⟩
        case measure => simp [intOf]; omega
      | false =>
        have HC := Lib.hid fun W => codeMay_any (ks.getD i 0) false W hp
        obtain ⟨rfl, rfl⟩ : ls = [] ∧ cc = 2 := by
          rcases HR.out with ⟨_, h⟩ | ⟨h, _⟩
          · exact h
          · have := of_not_false (anyN_false h i hlt); rw [hp] at this; cases this
        generalize ks.getD i 0 = x at *
        clear hcells hyes hp HR
        go_wp2_with (go_at_call 44; refine (HC.out _).mono ?_; rintro e w1 ⟨rfl, rfl⟩)
        go_ret2
        exact ⟨_, rfl, isRows_nil _ _, Below.refl _ _⟩
    · obtain rfl : i = ks.length := by omega
      obtain ⟨rfl, rfl⟩ : ls = cntRows ks R ∧ cc = 0 := by
        rcases HR.out with ⟨h, _⟩ | ⟨_, h⟩
        · obtain ⟨j, hj, hp⟩ := anyN_true h
          rw [hyes j hj] at hp; cases hp
        · exact h
      have HY := Lib.hid hyes
      clear hyes HR
      go_wp2_with fail
      go_loopw [8, 9] (fun ov iv wr => ∃ r : Nat, ∃ vs : List Value, r ≤ R ∧ iv = .int .i64 r ∧ vs.length = r ∧ wr.ownsRow w.heap.size 22 1 ov r vs ∧ OwnRows 3 wr w.heap.size vs (cntRows ks r) ∧ Below w.heap.size w wr) (fun _ iv _ => R - (intOf iv).toNat)
      case atStart => exact ⟨0, [], by omega, rfl, rfl, World.ownsRow_nil _ _ _ _, by rw [cntRows_0]; exact OwnRows.nil _ _ _, Below.refl _ _⟩
      case round =>
        obtain ⟨wo, rfl⟩ : ∃ wo : World, wo = wr := ⟨_, rfl⟩
        obtain ⟨r, vs, hrR, rfl, hvs, hout, hrows, hbel⟩ := hrel
        obtain ⟨A1, c1, rfl⟩ := own_shape hout
        have HO := Lib.hid hout
        have HR := Lib.hid hrows
        have HB := Lib.hid hbel
        have hz := hbel.size
        clear hout hrows hbel
        by_cases hlt : r < R
        · go_wp2_with fail
          go_loopw [10, 11] (fun ov iv wr => ∃ i : Nat, i ≤ 64 ∧ iv = .int .i64 i ∧ wr.ownsRow wo.heap.size 3 1 ov i ((cntRow ks r ks.length i).map (Value.int .i64)) ∧ Below wo.heap.size wo wr) (fun _ iv _ => 64 - (intOf iv).toNat)
          case atStart => exact ⟨0, by omega, rfl, by rw [cntRow_0]; exact World.ownsRow_nil _ _ _ _, Below.refl _ _⟩
          case round =>
            obtain ⟨wi, rfl⟩ : ∃ wi : World, wi = wr := ⟨_, rfl⟩
            obtain ⟨i, hi, rfl, hown, hbi⟩ := hrel
            obtain ⟨A2, c2, rfl⟩ := own_shape hown
            have HO2 := Lib.hid hown
            have HB2 := Lib.hid hbi
            have hz2 := hbi.size
            have hkeep := fun p hp => hbi.cell (p := p) hp
            have HKeep := Lib.hid hkeep
            clear hown hbi hkeep
            by_cases hlt2 : i < 64
            · have t42 : decide ((i : Int) < 64) = true := by simp; omega
              go_wp2_with fail
              go_loop [12, 47] (fun nv iv => ∃ m : Nat, m ≤ ks.length ∧ iv = .int .i64 m ∧ nv = .int .i64 (cntAt ks r i m : Nat)) (fun _ iv => ks.length - (intOf iv).toNat)
              case atStart => exact ⟨0, by omega, rfl, by rw [cntAt_0]; rfl⟩
              case round =>
                obtain ⟨m, hmk, rfl, rfl⟩ := hrel
                have hle := cntAt_le ks r i m
                by_cases hlt3 : m < ks.length
                · obtain ⟨b, off, rfl, hb, hcells⟩ := ints_cells hr (by omega)
                  have k0 := (HKeep.out ⟨b, off + m, none⟩ (by simp; omega)).trans ((HB.out.cell (p := ⟨b, off + m, none⟩) (by simp; omega)).trans (hcells m hlt3))
                  have ho := codeOk_yes (HY.out m hlt3)
                  obtain ⟨x, hx⟩ := Int.eq_ofNat_of_zero_le ho.1
                  have hp : placeN r (ks.getD m 0).toNat = placeN r x := by rw [hx, Int.toNat_natCast]
                  have HC := Lib.hid fun W => refSktPlace_any r x (placeN r x : Nat) 0 W (.inl ⟨by omega, by omega, by omega, by omega, by simp, rfl⟩)
                  rw [hx] at k0
                  by_cases he : placeN r x = i
                  · have HN := Lib.hid (cntAt_yes (hp.trans he))
                    have t2 : ((placeN r x : Nat) : Int) == (i : Int) := by rw [he]; simp
                    generalize cntAt ks r i m = y at *
                    clear hcells ho hx hp
                    generalize placeN r x = p at *
                    subst he
                    go_wp2_with (go_at_call 45; refine (HC.out _).mono ?_; rintro e w1 ⟨rfl, rfl⟩)
                    go_round
                    case rel => exact ⟨m + 1, by omega, by go_num, by rw [HN.out]; go_num⟩
                    case measure => simp [intOf]; omega
                  · have HN := Lib.hid (cntAt_no (by rw [hp]; exact he))
                    have t2 : (((placeN r x : Nat) : Int) == (i : Int)) = false := by rw [beq_eq_false_iff_ne]; omega
                    generalize cntAt ks r i m = y at *
                    clear hcells ho hx hp
                    generalize placeN r x = p at *
                    go_wp2_with (go_at_call 45; refine (HC.out _).mono ?_; rintro e w1 ⟨rfl, rfl⟩)
                    go_round
                    case rel => exact ⟨m + 1, by omega, by go_num, by rw [HN.out]⟩
                    case measure => simp [intOf]; omega
                · obtain rfl : m = ks.length := by omega
                  have HS := Lib.hid (cntRow_succ ks r ks.length i)
                  generalize cntAt ks r i ks.length = y at *
                  go_wp2_with (at_builtin; refine wpList_push el_int rfl (.tmp 63) (.tmp 65) rfl wo.heap.size _ i _ (HO2.out.alloc _) rfl wi.heap.size 1 _ rfl (by simp; rfl) rfl (by omega) (by omega) (by simp; omega) ?_; intro v' w2 hown2 hg2)
                  refine ⟨⟨i + 1, by omega, by go_num, ?_, below_push (HB2.out.alloc hz2 _) (HO2.out.alloc _) (Nat.le_refl _) (by simp; omega) hg2⟩, by simp [intOf]; omega⟩
                  rw [HS.out, List.map_append]; exact hown2
            · obtain rfl : i = 64 := by omega
              go_wp2_with (at_builtin; refine wpList_push el_rows rfl (.tmp 67) (.tmp 69) rfl w.heap.size _ r _ ((own_size HO.out HB2.out).alloc _) rfl wi.heap.size 1 _ rfl (by simp; rfl) rfl (by omega) (by omega) (by simp; omega) ?_; intro v' w2 hown2 hg2)
              have h1 := ((OwnRows.push (HR.out.size HB2.out) (u := .slice A2 64 c2) (l := cntRow ks r ks.length 64) (by rw [cntRow_length]; exact own_base HO2.out hz)).alloc (.cells #[.slice A2 64 c2] 22)).grown ((own_size HO.out HB2.out).alloc _) (by decide) hg2
              refine ⟨⟨r + 1, vs ++ [.slice A2 64 c2], by omega, by go_num, by simp [hvs], hown2, by rw [cntRows_succ]; exact h1, below_push ((HB.out.trans (HB2.out.mono hz)).alloc (by omega) _) ((own_size HO.out HB2.out).alloc _) (Nat.le_refl _) (by simp; omega) hg2⟩, by simp [intOf]; omega⟩
        · obtain rfl : r = R := by omega
          go_wp2_with fail
          go_ret2
          refine ⟨_, rfl, ?_, HB.out⟩
          exact rows_of_own HR.out (by rw [cntRows_length]; exact HO.out) (by rw [cntRows_length]; omega) (cntRows_wf (by omega))
set_option maxHeartbeats 400000 in
theorem sktMakes_walk (u v : Value) (w : World) (h' : ∃ x : Int, u = .int .i64 x ∧ I64 x) (h : ∃ l, IsInts .i64 w w.heap.size v l) :
    Calls Try.prog 3 #[u, v] w fun e w' => e = .returned (.bool true) ∧ Below w.heap.size w w' := by
  obtain ⟨l, h⟩ := h
  obtain ⟨x, rfl, hx⟩ := h'
  obtain ⟨r, cc, hR⟩ := SktMakeR.ex x l
  have H1 := Lib.hid (sktMake_any x v l r cc w _ (Nat.le_refl _) h hR)
  have H2 := Lib.hid fun W (hb : Below w.heap.size w W) => refSktMake_any x v l r cc W _ hb.size (h.below hb) hR
  obtain ⟨A, c, rfl, hc, hm, hn, hr, hw⟩ := h
  clear hr hw hR
  go_enter Try.func3, Try.ntmps3
  go_wp2_with (first
    | (go_at_call 15; refine (H1.out).mono ?_; rintro e w1 ⟨v1, rfl, hi1, hb1⟩)
    | (go_at_call 16; refine (H2.out _ hb1).mono ?_; rintro e w2 ⟨v2, rfl, hi2, hb2⟩)
    | (go_at_call 17; refine (sameRows_any v1 v2 r _ _ ((hi1.below hb2).more hb2.size) hi2).mono ?_; rintro e w3 ⟨rfl, hd⟩))
  go_ret
  exact ⟨ret_bool (by simp), (hb1.trans (hb2.mono hb1.size)).trans (hd.below _)⟩
end Go.Proofs.Ytjniiiimkejkiaa
