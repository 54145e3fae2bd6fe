/-
  Contracts of the reference's ParenFault and partner. Conditions: the argument is a string.
-/
import Derived.Test.YtlojecajonhmhaaMParenTexts00
import Derived.Test.YtlojecajonhmhaaMParenTexts02
set_option linter.unusedVariables false
set_option linter.unusedSimpArgs false
namespace Go.Proofs.Ytlojecajonhmhaa
open Go Go.RowKit Go.Dam
set_option linter.unusedVariables false
set_option maxHeartbeats 1000000 in
theorem parenFault_any (s : ByteArray) (c : Int) (w : World) (hs : s.size ≤ 140737488351232) (hc : ParenC s c) :
    Calls Try.prog 33 #[.string s] w fun e w' => e = .returned (.int .i64 c) ∧ w = w' := by
  by_cases h1 : 400 < s.size
  · obtain rfl : c = 1 := by rcases hc with ⟨_, h⟩ | ⟨h, _⟩ | ⟨h, _⟩ <;> first | exact h | omega
    clear hc
    go_enter Try.func33, Try.ntmps33
    go_wp2_with fail
    go_ret
    exact ⟨rfl, rfl⟩
  have HC := Lib.hid hc
  have h1 : s.size ≤ 400 := by omega
  clear hc hs
  go_enter Try.func33, Try.ntmps33
  go_wp2_with fail
  go_loop [3, 4] (fun dv iv => ∃ i : Nat, i ≤ s.size ∧ iv = .int .i64 i ∧ dv = .int .i64 (dep (chr s) i) ∧ Fine (chr s) i) (fun _ iv => s.size - (intOf iv).toNat)
  case atStart => exact ⟨0, by omega, rfl, by rw [dep_0], Fine.nil _⟩
  case round =>
    obtain ⟨i, hi, rfl, rfl, hfine⟩ := hrel
    have hd0 := hfine.2 i (Nat.le_refl _)
    have hd1 := dep_le (chr s) i
    by_cases hlt : i < s.size
    · have hch := chr_at hlt
      have hc256 := chr_lt s i
      by_cases h40 : chr s i = 40
      · have t0 : ((s[i].toNat : Int) == 40) = true := by rw [hch, h40]; rfl
        have hdn := dep_open h40
        have HN := Lib.hid (hfine.next (.inl h40) (by omega))
        have HD := Lib.hid hdn
        generalize dep (chr s) i = d at *
        clear hfine hch h40 hdn
        go_wp2_with fail
        go_round
        case rel => exact ⟨i + 1, by omega, by go_num, vint HD.out.symm, HN.out⟩
        case measure => simp [intOf]; omega
      · have t0 : ((s[i].toNat : Int) == 40) = false := by rw [hch, beq_eq_false_iff_ne]; omega
        have hdn := dep_close h40
        by_cases h41 : chr s i = 41
        · have t1 : ((s[i].toNat : Int) == 41) = true := by rw [hch, h41]; rfl
          have HD := Lib.hid hdn
          by_cases hz : dep (chr s) i = 0
          · obtain rfl : c = 4 := by
              rcases HC.out with ⟨h, _⟩ | ⟨_, _, h⟩ | ⟨_, h, _⟩
              · omega
              · exact h
              · have := h.2.1 (i + 1) (by omega); omega
            have hz1 : dep (chr s) i < 1 := by omega
            generalize dep (chr s) i = d at *
            clear hfine hch h40 h41 hdn hz HC
            go_wp2_with fail
            go_ret
            exact ⟨rfl, rfl⟩
          · have HN := Lib.hid (hfine.next (.inr h41) (by omega))
            have hz1 : 1 ≤ dep (chr s) i := by omega
            generalize dep (chr s) i = d at *
            clear hfine hch h40 h41 hdn hz
            go_wp2_with fail
            go_round
            case rel => exact ⟨i + 1, by omega, by go_num, vint HD.out.symm, HN.out⟩
            case measure => simp [intOf]; omega
        · have t1 : ((s[i].toNat : Int) == 41) = false := by rw [hch, beq_eq_false_iff_ne]; omega
          obtain rfl : c = 4 := by
            rcases HC.out with ⟨h, _⟩ | ⟨_, _, h⟩ | ⟨_, h, _⟩
            · omega
            · exact h
            · rcases h.1 i hlt with a | a
              · exact absurd a h40
              · exact absurd a h41
          generalize dep (chr s) i = d at *
          clear hfine hch h40 h41 hdn HC
          go_wp2_with fail
          go_ret
          exact ⟨rfl, rfl⟩
    · obtain rfl : i = s.size := by omega
      by_cases hz : dep (chr s) s.size = 0
      · obtain rfl : c = 0 := by
          rcases HC.out with ⟨h, _⟩ | ⟨_, h, _⟩ | ⟨_, _, h⟩
          · omega
          · exact absurd (hfine.all hz) h
          · exact h
        rw [hz]
        clear hfine HC hz hd0 hd1
        go_wp2_with fail
        go_ret
        exact ⟨rfl, rfl⟩
      · obtain rfl : c = 4 := by
          rcases HC.out with ⟨h, _⟩ | ⟨_, _, h⟩ | ⟨_, h, _⟩
          · omega
          · exact h
          · exact absurd h.2.2 hz
        have t0 : ((dep (chr s) s.size) != 0) = true := by simpa using hz
        generalize dep (chr s) s.size = d at *
        clear hfine HC hz
        go_wp2_with fail
        go_ret
        exact ⟨rfl, rfl⟩
set_option maxHeartbeats 1000000 in
theorem partner_open (s : ByteArray) (k i : Nat) (w : World) (hs : s.size ≤ 400) (hb : Brackets (chr s) s.size) (hk : i < s.size) (hm : Mt (chr s) k i) :
    Calls Try.prog 43 #[.string s, .int .i64 k] w fun e w' => e = .returned (.int .i64 i) ∧ Drawn w w' := by
  have hki := hm.lt
  have hks : k < s.size := by omega
  have hchk := chr_at hks
  have hop := hm.op
  have tk : ((s[k].toNat : Int) == 41) = false := by rw [hchk, hop]; rfl
  have HM := Lib.hid hm
  have HBr := Lib.hid hb
  have HK : Hid (s[k].toNat = 40) := Lib.hid (by rw [hchk, hop])
  clear hchk hop hm hb
  go_enter Try.func43, Try.ntmps43
  go_wp2_with fail
  clear tk
  go_loopw [6, 7] (fun dv jv wr => ∃ j : Nat, k ≤ j ∧ j ≤ i ∧ jv = .int .i64 j ∧ dv = .int .i64 (dep (chr s) j - dep (chr s) k) ∧ Drawn w wr) (fun _ jv _ => s.size - (intOf jv).toNat)
  case atStart => exact ⟨k, by omega, by omega, rfl, vint (by omega), Drawn.refl _⟩
  case round =>
    obtain ⟨j, hj1, hj2, rfl, rfl, hd⟩ := hrel
    have hjs : j < s.size := by omega
    have hch := chr_at hjs
    have b1 := dep_le (chr s) j
    have b2 := dep_le (chr s) k
    have h256 := chr_lt s j
    have HD := Lib.hid hd
    by_cases h40 : chr s j = 40
    · have t0 : ((s[j].toNat : Int) == (s[k].toNat : Int)) = true := by rw [hch, HK.out, h40]; rfl
      have hdn := dep_open h40
      have hji : j < i := by
        rcases Nat.lt_or_ge j i with h | h
        · exact h
        · obtain rfl : j = i := by omega
          exact absurd h40 HM.out.cl
      have hup := HM.out.up (j + 1) (by omega) (by omega)
      have HN : Hid (dep (chr s) j - dep (chr s) k + 1 = dep (chr s) (j + 1) - dep (chr s) k) := Lib.hid (by omega)
      obtain ⟨d, hdd⟩ : ∃ d, d = dep (chr s) j - dep (chr s) k := ⟨_, rfl⟩
      have hd1 : 0 ≤ d ∧ d ≤ 1000 := by omega
      rw [← hdd] at HN ⊢
      clear hch h40 hdn hup hdd b1 b2 hd
      go_wp2_with fail
      go_quiet (fail)
      go_wp2
      go_roundw
      case rel => exact ⟨j + 1, by omega, by omega, by go_num, vint HN.out, HD.out.drewN _⟩
      case measure => simp [intOf]; omega
    · have t0 : ((s[j].toNat : Int) == (s[k].toNat : Int)) = false := by rw [hch, HK.out, beq_eq_false_iff_ne]; omega
      have hdn := dep_close h40
      have hjk : k < j := by
        rcases Nat.lt_or_ge k j with h | h
        · exact h
        · obtain rfl : j = k := by omega
          exact absurd HM.out.op h40
      have hup := HM.out.up j hjk hj2
      by_cases hji : j = i
      · subst hji
        have heq := HM.out.eq
        have hone : dep (chr s) j - dep (chr s) k = 1 := by omega
        rw [hone]
        clear hch h40 hdn hup b1 b2 hd heq hone hj1
        go_wp2_with fail
        go_quiet (fail)
        go_wp2
        go_ret
        exact ⟨rfl, HD.out.drewN _⟩
      · have hup2 := HM.out.up (j + 1) (by omega) (by omega)
        have HN : Hid (dep (chr s) j - dep (chr s) k - 1 = dep (chr s) (j + 1) - dep (chr s) k) := Lib.hid (by omega)
        obtain ⟨d, hdd⟩ : ∃ d, d = dep (chr s) j - dep (chr s) k := ⟨_, rfl⟩
        have hd1 : 2 ≤ d ∧ d ≤ 1000 := by omega
        rw [← hdd] at HN ⊢
        have hji2 : j < i := by omega
        clear hch h40 hdn hup hup2 hdd b1 b2 hd hji
        go_wp2_with fail
        go_quiet (fail)
        go_wp2
        go_roundw
        case rel => exact ⟨j + 1, by omega, by omega, by go_num, vint HN.out, HD.out.drewN _⟩
        case measure => simp [intOf]; omega
set_option maxHeartbeats 1000000 in
theorem partner_close (s : ByteArray) (k i : Nat) (w : World) (hs : s.size ≤ 400) (hb : Brackets (chr s) s.size) (hk : i < s.size) (hm : Mt (chr s) k i) :
    Calls Try.prog 43 #[.string s, .int .i64 i] w fun e w' => e = .returned (.int .i64 k) ∧ Drawn w w' := by
  have hki := hm.lt
  have hchk := chr_at hk
  have hcl : chr s i = 41 := by
    rcases hb.1 i hk with h | h
    · exact absurd h hm.cl
    · exact h
  have tk : ((s[i].toNat : Int) == 41) = true := by rw [hchk, hcl]; rfl
  have HM := Lib.hid hm
  have HBr := Lib.hid hb
  have HK : Hid (s[i].toNat = 41) := Lib.hid (by rw [hchk, hcl])
  clear hchk hcl hm hb
  go_enter Try.func43, Try.ntmps43
  go_wp2_with fail
  clear tk
  go_loopw [6, 7] (fun dv jv wr => ∃ j : Nat, k ≤ j ∧ j ≤ i ∧ jv = .int .i64 j ∧ dv = .int .i64 (dep (chr s) (j + 1) - dep (chr s) (i + 1)) ∧ Drawn w wr) (fun _ jv _ => (intOf jv).toNat)
  case atStart => exact ⟨i, by omega, by omega, rfl, vint (by omega), Drawn.refl _⟩
  case round =>
    obtain ⟨j, hj1, hj2, rfl, rfl, hd⟩ := hrel
    have hjs : j < s.size := by omega
    have hch := chr_at hjs
    have b1 := dep_le (chr s) (j + 1)
    have b2 := dep_le (chr s) (i + 1)
    have heq := HM.out.eq
    have h256 := chr_lt s j
    have HD := Lib.hid hd
    by_cases h40 : chr s j = 40
    · have t0 : ((s[j].toNat : Int) == (s[i].toNat : Int)) = false := by rw [hch, HK.out, h40]; rfl
      have hdn := dep_open h40
      by_cases hjk : j = k
      · subst hjk
        have hone : dep (chr s) (j + 1) - dep (chr s) (i + 1) = 1 := by omega
        rw [hone]
        clear hch h40 hdn b1 b2 hd heq hone hj1
        go_wp2_with fail
        go_quiet (fail)
        go_wp2
        go_ret
        exact ⟨rfl, HD.out.drewN _⟩
      · have hup := HM.out.up j (by omega) hj2
        have HN : Hid (dep (chr s) (j + 1) - dep (chr s) (i + 1) - 1 = dep (chr s) (j - 1 + 1) - dep (chr s) (i + 1)) := Lib.hid (by rw [show j - 1 + 1 = j from by omega]; omega)
        obtain ⟨d, hdd⟩ : ∃ d, d = dep (chr s) (j + 1) - dep (chr s) (i + 1) := ⟨_, rfl⟩
        have hd1 : 2 ≤ d ∧ d ≤ 1000 := by omega
        rw [← hdd] at HN ⊢
        have hjk2 : k < j := by omega
        clear hch h40 hdn hup hdd b1 b2 hd hjk heq
        go_wp2_with fail
        go_quiet (fail)
        go_wp2
        go_roundw
        case rel => exact ⟨j - 1, by omega, by omega, vint (by omega), vint HN.out, HD.out.drewN _⟩
        case measure => simp [intOf]; omega
    · have h41 : chr s j = 41 := by
        rcases HBr.out.1 j hjs with h | h
        · exact absurd h h40
        · exact h
      have t0 : ((s[j].toNat : Int) == (s[i].toNat : Int)) = true := by rw [hch, HK.out, h41]; rfl
      have hdn := dep_close h40
      have hjk : k < j := by
        rcases Nat.lt_or_ge k j with h | h
        · exact h
        · obtain rfl : j = k := by omega
          exact absurd HM.out.op h40
      have hup := HM.out.up j hjk hj2
      have HN : Hid (dep (chr s) (j + 1) - dep (chr s) (i + 1) + 1 = dep (chr s) (j - 1 + 1) - dep (chr s) (i + 1)) := Lib.hid (by rw [show j - 1 + 1 = j from by omega]; omega)
      obtain ⟨d, hdd⟩ : ∃ d, d = dep (chr s) (j + 1) - dep (chr s) (i + 1) := ⟨_, rfl⟩
      have hd1 : 0 ≤ d ∧ d ≤ 1000 := by omega
      rw [← hdd] at HN ⊢
      clear hch h40 h41 hdn hup hdd b1 b2 hd heq
      go_wp2_with fail
      go_quiet (fail)
      go_wp2
      go_roundw
      case rel => exact ⟨j - 1, by omega, by omega, vint (by omega), vint HN.out, HD.out.drewN _⟩
      case measure => simp [intOf]; omega
theorem partner_any (s : ByteArray) (i p : Nat) (w : World) (hs : s.size ≤ 400) (hb : Brackets (chr s) s.size) (hi : i < s.size) (hp : p < s.size) (h : Pt (chr s) i p) :
    Calls Try.prog 43 #[.string s, .int .i64 i] w fun e w' => e = .returned (.int .i64 p) ∧ Drawn w w' := by
  rcases h with h | h
  · exact partner_open s i p w hs hb hp h
  · exact partner_close s p i w hs hb hi h
end Go.Proofs.Ytlojecajonhmhaa
