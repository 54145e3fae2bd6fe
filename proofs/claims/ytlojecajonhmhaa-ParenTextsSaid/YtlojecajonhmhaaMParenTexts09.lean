/-
  Contracts of paren.Match, paren.Enclose and the reference's ParenMatch, ParenEnclose. Conditions: the arguments are a string and an int.
-/
import Derived.Test.YtlojecajonhmhaaMParenTexts07
import Derived.Test.YtlojecajonhmhaaMParenTexts08
set_option linter.unusedVariables false
set_option linter.unusedSimpArgs false
namespace Go.Dam
/-- What Match answers. -/
def MatchR (s : ByteArray) (i r c : Int) : Prop :=
  (∃ c0, ParenC s c0 ∧ c0 ≠ 0 ∧ r = 0 ∧ c = c0) ∨ (ParenC s 0 ∧ (i < 0 ∨ (s.size : Int) ≤ i) ∧ r = 0 ∧ c = 2) ∨
  (ParenC s 0 ∧ ∃ k p : Nat, i = k ∧ k < s.size ∧ p < s.size ∧ Pt (chr s) k p ∧ r = p ∧ c = 0)
theorem parenC_0 {s : ByteArray} (h : ParenC s 0) : s.size ≤ 400 ∧ Brackets (chr s) s.size := by
  rcases h with ⟨_, h⟩ | ⟨_, _, h⟩ | ⟨h1, h2, _⟩
  · cases h
  · cases h
  · exact ⟨h1, h2⟩
theorem MatchR.ex (s : ByteArray) (i : Int) : ∃ r c, MatchR s i r c := by
  obtain ⟨c0, h⟩ := ParenC.ex s
  by_cases h0 : c0 = 0
  · subst h0
    by_cases h2 : i < 0 ∨ (s.size : Int) ≤ i
    · exact ⟨_, _, .inr (.inl ⟨h, h2, rfl, rfl⟩)⟩
    · obtain ⟨p, hp, hm⟩ := (parenC_0 h).2.pt (show i.toNat < s.size by omega)
      exact ⟨_, _, .inr (.inr ⟨h, i.toNat, p, by omega, by omega, hp, hm, rfl, rfl⟩)⟩
  · exact ⟨_, _, .inl ⟨c0, h, h0, rfl, rfl⟩⟩
/-- What Enclose answers, of an open place a. -/
def EncOf (f : Nat → Nat) (a : Nat) (r c : Int) : Prop := (∃ e : Nat, Enc f e a ∧ (∀ x, e < x → x < a → ¬ Enc f x a) ∧ r = e ∧ c = 0) ∨ ((∀ x, x < a → ¬ Enc f x a) ∧ r = 0 ∧ c = 7)
/-- The open place of a pair. -/
def OpenOf (f : Nat → Nat) (i a b : Nat) : Prop := Mt f a b ∧ (i = a ∨ i = b)
def EncloseR (s : ByteArray) (i r c : Int) : Prop :=
  (∃ c0, ParenC s c0 ∧ c0 ≠ 0 ∧ r = 0 ∧ c = c0) ∨ (ParenC s 0 ∧ (i < 0 ∨ (s.size : Int) ≤ i) ∧ r = 0 ∧ c = 2) ∨
  (ParenC s 0 ∧ ∃ k a b : Nat, i = k ∧ k < s.size ∧ b < s.size ∧ OpenOf (chr s) k a b ∧ EncOf (chr s) a r c)
theorem EncOf.ex (f : Nat → Nat) (a : Nat) : ∃ r c, EncOf f a r c := by
  classical
  have key : ∀ n, n ≤ a → (∃ e, n ≤ e ∧ Enc f e a ∧ ∀ x, e < x → x < a → ¬ Enc f x a) ∨ ∀ x, n ≤ x → x < a → ¬ Enc f x a := by
    intro n hn
    obtain ⟨d, hd⟩ : ∃ d, n + d = a := ⟨a - n, by omega⟩
    induction d generalizing n with
    | zero => exact .inr fun x h1 h2 => by omega
    | succ d ih =>
      rcases ih (n + 1) (by omega) (by omega) with ⟨e, h1, h2, h3⟩ | h
      · exact .inl ⟨e, by omega, h2, h3⟩
      · by_cases he : Enc f n a
        · exact .inl ⟨n, Nat.le_refl _, he, fun x h1 h2 => h x h1 h2⟩
        · refine .inr fun x h1 h2 => ?_
          rcases Nat.lt_or_ge n x with h3 | h3
          · exact h x h3 h2
          · rw [show x = n from by omega]; exact he
  rcases key 0 (by omega) with ⟨e, _, h1, h2⟩ | h
  · exact ⟨_, _, .inl ⟨e, h1, h2, rfl, rfl⟩⟩
  · exact ⟨_, _, .inr ⟨fun x hx => h x (by omega) hx, rfl, rfl⟩⟩
theorem EncloseR.ex (s : ByteArray) (i : Int) : ∃ r c, EncloseR s i r c := by
  obtain ⟨c0, h⟩ := ParenC.ex s
  by_cases h0 : c0 = 0
  · subst h0
    by_cases h2 : i < 0 ∨ (s.size : Int) ≤ i
    · exact ⟨_, _, .inr (.inl ⟨h, h2, rfl, rfl⟩)⟩
    · obtain ⟨p, hp, hm⟩ := (parenC_0 h).2.pt (show i.toNat < s.size by omega)
      rcases hm with hm | hm
      · obtain ⟨r, c, hr⟩ := EncOf.ex (chr s) i.toNat
        exact ⟨r, c, .inr (.inr ⟨h, i.toNat, i.toNat, p, by omega, by omega, hp, ⟨hm, .inl rfl⟩, hr⟩)⟩
      · obtain ⟨r, c, hr⟩ := EncOf.ex (chr s) p
        exact ⟨r, c, .inr (.inr ⟨h, i.toNat, p, i.toNat, by omega, by omega, by omega, ⟨hm, .inr rfl⟩, hr⟩)⟩
  · exact ⟨_, _, .inl ⟨c0, h, h0, rfl, rfl⟩⟩
/-- An open place ahead encloses just if its partner is behind the pair. -/
theorem enc_iff {f : Nat → Nat} {a b x q : Nat} (hab : Mt f a b) (hx : x < a) (hq : Mt f x q) : Enc f x a ↔ b < q := by
  constructor
  · rintro ⟨_, _, h⟩
    have h1 := hq.eq
    have h2 := h a hx (Nat.le_refl _)
    rcases Nat.lt_or_ge b q with h3 | h3
    · exact h3
    · rcases Nat.lt_or_ge q a with h4 | h4
      · have := h (q + 1) (by have := hq.lt; omega) h4; omega
      · rcases Nat.lt_or_ge q b with h5 | h5
        · have := hab.up (q + 1) (by omega) (by omega); omega
        · obtain rfl : q = b := by omega
          have := hab.eq; omega
  · intro h
    exact ⟨hx, hq.op, fun j h1 h2 => hq.up j h1 (by have := hab.lt; omega)⟩
/-- No place of an earlier pair encloses. -/
theorem enc_skip {f : Nat → Nat} {a q k x : Nat} (hm : Mt f q k) (hk : k < a) (h1 : q ≤ x) (h2 : x ≤ k) : ¬ Enc f x a := by
  rintro ⟨_, ho, h⟩
  have e := hm.eq
  have := h (k + 1) (by omega) (by omega)
  rcases Nat.lt_or_ge q x with h3 | h3
  · have := hm.up x h3 h2; omega
  · obtain rfl : q = x := by omega
    omega
end Go.Dam
namespace Go.Proofs.Ytlojecajonhmhaa
open Go Go.RowKit Go.Dam
set_option linter.unusedVariables false
/-- What follows a refusal, for both Encloses. -/
theorem encloseR_0 {s : ByteArray} {i r c : Int} (hR : EncloseR s i r c) (h : ParenC s 0 → False) : ∃ c0, ParenC s c0 ∧ c0 ≠ 0 ∧ r = 0 ∧ c = c0 := by
  rcases hR with h1 | ⟨h1, _⟩ | ⟨h1, _⟩
  · exact h1
  · exact (h h1).elim
  · exact (h h1).elim
set_option maxHeartbeats 2000000 in
theorem refParenEnclose_any (s : ByteArray) (i r cc : Int) (w : World) (hs : s.size ≤ 140737488351232) (hR : EncloseR s i r cc) :
    Calls Try.prog 34 #[.string s, .int .i64 i] w fun e w' => e = .returned (.tuple #[.int .i64 r, .int .i64 cc]) ∧ Drawn w w' := by
  rcases hR with ⟨c0, hC, h0, rfl, rfl⟩ | ⟨hC, h1, rfl, rfl⟩ | ⟨hC, k, a, b, rfl, hk, hb, ⟨hab, hka⟩, henc⟩
  · have HC := Lib.hid (parenFault_any s cc w hs hC)
    have t0 : (cc != 0) = true := by simpa using h0
    clear hC h0
    go_enter Try.func34, Try.ntmps34
    go_wp2_with (go_at_call 33; refine (HC.out).mono ?_; rintro e w1 ⟨rfl, rfl⟩)
    go_ret2
    exact ⟨rfl, Drawn.refl _⟩
  · have HC := Lib.hid (parenFault_any s 0 w hs hC)
    clear hC
    by_cases h2 : i < 0
    · have t1 : decide (i < 0) = true := by simpa using h2
      clear h1
      go_enter Try.func34, Try.ntmps34
      go_wp2_with (go_at_call 33; refine (HC.out).mono ?_; rintro e w1 ⟨rfl, rfl⟩)
      go_ret2
      exact ⟨rfl, Drawn.refl _⟩
    · have t1 : decide (i < 0) = false := by simpa using h2
      have h3 : (s.size : Int) ≤ i := by omega
      clear h1
      go_enter Try.func34, Try.ntmps34
      go_wp2_with (go_at_call 33; refine (HC.out).mono ?_; rintro e w1 ⟨rfl, rfl⟩)
      go_ret2
      exact ⟨rfl, Drawn.refl _⟩
  · obtain ⟨h400, hbr⟩ := parenC_0 hC
    have HC := Lib.hid (parenFault_any s 0 w hs hC)
    have HBr := Lib.hid hbr
    have HAB := Lib.hid hab
    have HEnc := Lib.hid henc
    have hltab := hab.lt
    have t1 : decide ((k : Int) < 0) = false := by simp
    have t2 : decide (s.size ≤ k) = false := by simp; omega
    have has : a < s.size := by omega
    have HPA := Lib.hid fun W => partner_open s a b W h400 hbr hb hab
    have HPB := Lib.hid fun W => partner_close s a b W h400 hbr hb hab
    have hchk := chr_at hk
    rcases hka with hka | hka
    all_goals subst hka
    · have t3 : ((s[k].toNat : Int) == 41) = false := by rw [hchk, hab.op]; rfl
      clear hC hbr hab henc hchk
      go_enter Try.func34, Try.ntmps34
      go_wp2_with (first
        | (go_at_call 33; refine (HC.out).mono ?_; rintro e w1 ⟨rfl, rfl⟩)
        | (go_at_call 43; (with_reducible refine (HPA.out _).mono ?_); rintro e w1 ⟨rfl, hd1⟩))
      have HD1 := Lib.hid hd1
      clear hd1
      go_loopw [9] (fun kv wr => ∃ m : Nat, m ≤ k ∧ kv = .int .i64 ((m : Int) - 1) ∧ (∀ x, m ≤ x → x < k → ¬ Enc (chr s) x k) ∧ Drawn w wr) (fun kv _ => (intOf kv + 1).toNat)
      case atStart => exact ⟨k, by omega, rfl, fun x h1 h2 => by omega, HD1.out⟩
      case round =>
        obtain ⟨m, hm, rfl, hno, hd⟩ := hrel
        have HD := Lib.hid hd
        clear hd
        cases m with
        | zero =>
          rw [show ((0 : Nat) : Int) - 1 = -1 from rfl]
          obtain ⟨rfl, rfl⟩ : r = 0 ∧ cc = 7 := by
            rcases HEnc.out with ⟨e, he, _⟩ | ⟨_, h⟩
            · exact absurd he (hno e (by omega) he.1)
            · exact h
          clear hno HEnc
          go_wp2_with fail
          go_ret2
          exact ⟨rfl, HD.out⟩
        | succ x =>
          rw [show (((x + 1 : Nat)) : Int) - 1 = (x : Int) from by omega]
          have hxs : x < s.size := by omega
          have hch := chr_at hxs
          by_cases ho : chr s x = 40
          · obtain ⟨q, hqs, hm1⟩ := HBr.out.right hxs ho
            have t4 : ((s[x].toNat : Int) == 40) = true := by rw [hch, ho]; rfl
            have HP := Lib.hid fun W => partner_open s x q W h400 HBr.out hqs hm1
            by_cases hE : b < q
            · have hEnc := (enc_iff HAB.out (by omega) hm1).2 hE
              obtain ⟨rfl, rfl⟩ : r = (x : Int) ∧ cc = 0 := by
                rcases HEnc.out with ⟨e, he, hn2, hre, hce⟩ | ⟨h, _⟩
                · refine ⟨?_, hce⟩
                  rcases Nat.lt_trichotomy e x with h1 | h1 | h1
                  · exact absurd hEnc (hn2 x h1 (by omega))
                  · rw [hre, h1]
                  · exact absurd he (hno e h1 he.1)
                · exact absurd hEnc (h x (by omega))
              clear hno HEnc ho hm1 hEnc hch
              go_wp2_with (go_at_call 43; refine (HP.out _).mono ?_; rintro e w2 ⟨rfl, hd2⟩)
              go_ret2
              exact ⟨rfl, HD.out.trans hd2⟩
            · have hnE : ¬ Enc (chr s) x k := fun h => hE ((enc_iff HAB.out (by omega) hm1).1 h)
              have HN : Hid (∀ y, x ≤ y → y < k → ¬ Enc (chr s) y k) := Lib.hid fun y h1 h2 => by
                rcases Nat.lt_or_ge x y with h3 | h3
                · exact hno y h3 h2
                · rw [show y = x from by omega]; exact hnE
              have t5 : decide (b < q) = false := by simpa using hE
              clear hno ho hm1 hnE hch
              go_wp2_with (go_at_call 43; refine (HP.out _).mono ?_; rintro e w2 ⟨rfl, hd2⟩)
              go_roundw
              case rel => exact ⟨x, by omega, rfl, HN.out, HD.out.trans hd2⟩
              case measure => simp [intOf] <;> omega
          · have t4 : ((s[x].toNat : Int) == 40) = false := by rw [hch, beq_eq_false_iff_ne]; omega
            have HN : Hid (∀ y, x ≤ y → y < k → ¬ Enc (chr s) y k) := Lib.hid fun y h1 h2 => by
              rcases Nat.lt_or_ge x y with h3 | h3
              · exact hno y h3 h2
              · rw [show y = x from by omega]; exact fun h => ho h.2.1
            clear hno ho hch
            go_wp2_with fail
            go_roundw
            case rel => exact ⟨x, by omega, rfl, HN.out, HD.out⟩
            case measure => simp [intOf] <;> omega
    · have t3 : ((s[k].toNat : Int) == 41) = true := by
        rw [hchk]
        rcases hbr.1 k hk with h | h
        · exact absurd h hab.cl
        · rw [h]; rfl
      clear hC hbr hab henc hchk
      go_enter Try.func34, Try.ntmps34
      go_wp2_with (first
        | (go_at_call 33; refine (HC.out).mono ?_; rintro e w1 ⟨rfl, rfl⟩)
        | (go_at_call 43; (with_reducible refine (HPB.out _).mono ?_); rintro e w0 ⟨rfl, hd0⟩)
        | (go_at_call 43; (with_reducible refine (HPA.out _).mono ?_); rintro e w1 ⟨rfl, hd1⟩))
      have HD1 := Lib.hid (hd0.trans hd1)
      clear hd1 hd0
      go_loopw [9] (fun kv wr => ∃ m : Nat, m ≤ a ∧ kv = .int .i64 ((m : Int) - 1) ∧ (∀ x, m ≤ x → x < a → ¬ Enc (chr s) x a) ∧ Drawn w wr) (fun kv _ => (intOf kv + 1).toNat)
      case atStart => exact ⟨a, by omega, rfl, fun x h1 h2 => by omega, HD1.out⟩
      case round =>
        obtain ⟨m, hm, rfl, hno, hd⟩ := hrel
        have HD := Lib.hid hd
        clear hd
        cases m with
        | zero =>
          rw [show ((0 : Nat) : Int) - 1 = -1 from rfl]
          obtain ⟨rfl, rfl⟩ : r = 0 ∧ cc = 7 := by
            rcases HEnc.out with ⟨e, he, _⟩ | ⟨_, h⟩
            · exact absurd he (hno e (by omega) he.1)
            · exact h
          clear hno HEnc
          go_wp2_with fail
          go_ret2
          exact ⟨rfl, HD.out⟩
        | succ x =>
          rw [show (((x + 1 : Nat)) : Int) - 1 = (x : Int) from by omega]
          have hxs : x < s.size := by omega
          have hch := chr_at hxs
          by_cases ho : chr s x = 40
          · obtain ⟨q, hqs, hm1⟩ := HBr.out.right hxs ho
            have t4 : ((s[x].toNat : Int) == 40) = true := by rw [hch, ho]; rfl
            have HP := Lib.hid fun W => partner_open s x q W h400 HBr.out hqs hm1
            by_cases hE : k < q
            · have hEnc := (enc_iff HAB.out (by omega) hm1).2 hE
              obtain ⟨rfl, rfl⟩ : r = (x : Int) ∧ cc = 0 := by
                rcases HEnc.out with ⟨e, he, hn2, hre, hce⟩ | ⟨h, _⟩
                · refine ⟨?_, hce⟩
                  rcases Nat.lt_trichotomy e x with h1 | h1 | h1
                  · exact absurd hEnc (hn2 x h1 (by omega))
                  · rw [hre, h1]
                  · exact absurd he (hno e h1 he.1)
                · exact absurd hEnc (h x (by omega))
              clear hno HEnc ho hm1 hEnc hch
              go_wp2_with (go_at_call 43; refine (HP.out _).mono ?_; rintro e w2 ⟨rfl, hd2⟩)
              go_ret2
              exact ⟨rfl, HD.out.trans hd2⟩
            · have hnE : ¬ Enc (chr s) x a := fun h => hE ((enc_iff HAB.out (by omega) hm1).1 h)
              have HN : Hid (∀ y, x ≤ y → y < a → ¬ Enc (chr s) y a) := Lib.hid fun y h1 h2 => by
                rcases Nat.lt_or_ge x y with h3 | h3
                · exact hno y h3 h2
                · rw [show y = x from by omega]; exact hnE
              have t5 : decide (k < q) = false := by simpa using hE
              clear hno ho hm1 hnE hch
              go_wp2_with (go_at_call 43; refine (HP.out _).mono ?_; rintro e w2 ⟨rfl, hd2⟩)
              go_roundw
              case rel => exact ⟨x, by omega, rfl, HN.out, HD.out.trans hd2⟩
              case measure => simp [intOf] <;> omega
          · have t4 : ((s[x].toNat : Int) == 40) = false := by rw [hch, beq_eq_false_iff_ne]; omega
            have HN : Hid (∀ y, x ≤ y → y < a → ¬ Enc (chr s) y a) := Lib.hid fun y h1 h2 => by
              rcases Nat.lt_or_ge x y with h3 | h3
              · exact hno y h3 h2
              · rw [show y = x from by omega]; exact fun h => ho h.2.1
            clear hno ho hch
            go_wp2_with fail
            go_roundw
            case rel => exact ⟨x, by omega, rfl, HN.out, HD.out⟩
            case measure => simp [intOf] <;> omega
end Go.Proofs.Ytlojecajonhmhaa
