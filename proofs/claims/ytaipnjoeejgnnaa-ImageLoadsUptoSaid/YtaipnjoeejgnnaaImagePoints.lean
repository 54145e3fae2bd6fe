/-
  Contract of image.points: the points that bytes tell. Conditions: the bytes can be read as data; at least five.
-/
import Derived.Test.YtaipnjoeejgnnaaImageGet
import Derived.Test.YtaipnjoeejgnnaaEqBytes
import Derived.Test.YtaipnjoeejgnnaaOwnBlk
import Derived.Test.YtaipnjoeejgnnaaGridCheck
import Derived.Lib.SlBytesConst
import Derived.RegionTactic
namespace Go.Dam
open Go Go.RowKit
set_option linter.unusedVariables false
/-- The bytes tell these points. -/
def PtsR (b : List Int) (n : Nat) (l : List Int) : Prop := n ≤ 150 ∧ l.length = n * 3 ∧ b = bodyL n l (n * 3) ∧ ∀ z ∈ l, -268435456 ≤ z ∧ z ≤ 268435456
/-- The bytes are no image's. -/
def NoImg (b : List Int) : Prop := ∀ b0 n l, b0.take (b0.length - 4) = b → ¬ Loads b0 n l
/-- What points returns. -/
def GivesPts (b : List Int) (w : World) (e : Ending) (w' : World) : Prop :=
  (∃ n l v', PtsR b n l ∧ e = .returned (.tuple #[v', .bool true]) ∧ IsFlat 3 w' w'.heap.size v' n l ∧ Below w.heap.size w w') ∨
  (NoImg b ∧ ∃ (A : Option Addr) (n c : Nat), e = .returned (.tuple #[.slice A n c, .bool false]) ∧ Below w.heap.size w w')
theorem IsInts.take_ {k : IntKind} {w : World} {B c i : Nat} {A : Option Addr} {l : List Int} (h : IsInts k w B (.slice A l.length c) l) (hi : i ≤ l.length) : IsInts k w B (.slice A i c) (l.take i) := by
  obtain ⟨A', c', hv, h1, h2, h3, h4, h5⟩ := h
  obtain ⟨rfl, rfl⟩ : A = A' ∧ c = c' := by injection hv with a b c; exact ⟨a, c⟩
  have hl : (l.take i).length = i := by rw [List.length_take]; omega
  refine ⟨A, c, by rw [hl], by omega, h2, by omega, ?_, fun z hz => h5 z (List.mem_of_mem_take hz)⟩
  have := h4.take hi
  rw [Nat.mul_one, ← List.map_take] at this
  rw [hl]; exact this
theorem noImg_head {b : List Int} (h : b.take 4 ≠ [68, 65, 77, 49]) : NoImg b := fun b0 n l hb hl => by
  have := hl.body.1
  rw [hb, body_eq] at this
  exact h (by rw [this]; rfl)
theorem noImg_count {b : List Int} (h : ∀ m rest, GetR (b.drop 4) m rest → 150 < m) : NoImg b := fun b0 n l hb hl => by
  have hn := hl.1
  have := hl.body.1
  rw [hb, body_eq] at this
  have hd : b.drop 4 = sevL n ++ numsL l (n * 3) := by rw [this]; rfl
  have := h n _ ⟨hd, sevL_len4 (by omega)⟩
  omega
theorem noImg_num {b o rest : List Int} {n i : Nat} (hb : b = bodyL n o i ++ rest) (hi : i < n * 3) (h : ∀ m rest', ¬ GetR rest m rest') : NoImg b := fun b0 n' l hb0 hl => by
  obtain ⟨rfl, _, hr⟩ := hl.at_ (by rw [hb0]; exact hb) (by omega)
  rw [show n * 3 - i = (n * 3 - i - 1) + 1 from by omega, numsT_succ] at hr
  have hc := hl.2.2.1 i hi
  exact h _ _ ⟨hr, sevL_len4 (foldN_le hc.1 hc.2)⟩
theorem noImg_rest {b o rest : List Int} {n : Nat} (hb : b = bodyL n o (n * 3) ++ rest) (h : rest ≠ []) : NoImg b := fun b0 n' l hb0 hl => by
  obtain ⟨rfl, _, hr⟩ := hl.at_ (by rw [hb0]; exact hb) (Nat.le_refl _)
  rw [Nat.sub_self, numsT_0] at hr
  exact h hr
theorem numsL_set (o : List Int) (k : Nat) (z : Int) : ∀ i, i ≤ k → numsL (o.set k z) i = numsL o i
  | 0, _ => by rw [numsL_0, numsL_0]
  | i + 1, h => by
    rw [numsL_succ, numsL_succ, numsL_set o k z i (by omega), List.getD_eq_getElem?_getD, List.getElem?_set_ne (by omega), ← List.getD_eq_getElem?_getD]
theorem body_step {b o r rest : List Int} {m k n : Nat} (hb : b = bodyL m o k ++ r) (hk : k < o.length) (hg : GetR r n rest) : b = bodyL m (o.set k (unfoldN n)) (k + 1) ++ rest := by
  rw [bodyL_succ]
  have e : bodyL m (o.set k (unfoldN n)) k = bodyL m o k := by rw [body_eq, body_eq, numsL_set o k _ k (Nat.le_refl _)]
  rw [e, List.getD_eq_getElem?_getD, List.getElem?_set_self hk, Option.getD_some, fold_unfold, List.append_assoc, ← hg.1]
  exact hb
theorem unfold_bound {n : Nat} (h : n ≤ 268435455) : -268435456 ≤ unfoldN n ∧ unfoldN n ≤ 268435456 := by
  by_cases h1 : n % 2 = 1
  · rw [unfoldN_odd h1]; omega
  · rw [unfoldN_even h1]; omega
/-- While the numbers are read: the points so far, and what is left. -/
def PtSt (T : TypeId) (w : World) (B : Nat) (b : List Int) (m g k : Nat) (rv : Value) (o r : List Int) (wr : World) : Prop :=
  o.length = m * 3 ∧ b = bodyL m o k ++ r ∧ (∀ z ∈ o, -268435456 ≤ z ∧ z ≤ 268435456) ∧ IBlk .i64 T wr g o ∧ IsInts .u8 wr B rv r ∧ Below w.heap.size w wr
theorem PtSt.below {T : TypeId} {w wr w2 : World} {B m g k : Nat} {b : List Int} {rv : Value} {o r : List Int} (h : PtSt T w B b m g k rv o r wr) (hB : B ≤ w.heap.size) (hb : Below wr.heap.size wr w2) : PtSt T w B b m g k rv o r w2 := by
  obtain ⟨h1, h2, h3, h4, h5, h6⟩ := h
  exact ⟨h1, h2, h3, h4.below hb h4.lt, h5.below (hb.mono (Nat.le_trans hB h6.size)), h6.trans (hb.mono h6.size)⟩
theorem PtSt.step {T : TypeId} {w wr : World} {B m g k n : Nat} {b : List Int} {rv rv' : Value} {o r rest : List Int} (h : PtSt T w B b m g k rv o r wr) (hB : B ≤ w.heap.size) (hg : GetR r n rest) (hn : n ≤ 268435455) (hk : k < m * 3) (hgw : w.heap.size ≤ g) (hi : IsInts .u8 wr B rv' rest) :
    PtSt T w B b m g (k + 1) rv' (o.set k (unfoldN n)) rest (wr.setCell ⟨g, k, none⟩ (.int .i64 (unfoldN n))) := by
  obtain ⟨h1, h2, h3, h4, h5, h6⟩ := h
  refine ⟨by rw [List.length_set]; exact h1, body_step h2 (by omega) hg, fun z hz => ?_, h4.set k _, hi.below ((Below.refl B wr).setCell (p := ⟨g, k, none⟩) (by show B ≤ g; omega) _), h6.setCell (p := ⟨g, k, none⟩) hgw _⟩
  rcases List.mem_or_eq_of_mem_set hz with e | e
  · exact h3 z e
  · rw [e]; exact unfold_bound hn
end Go.Dam
namespace Go.Proofs.Ytaipnjoeejgnnaa
open Go Go.RowKit Go.Dam
set_option linter.unusedVariables false
theorem el_pt : El Try.prog 23 82 (.agg #[.int .i64 0, .int .i64 0, .int .i64 0]) 3 24 := ⟨Try.underlying23, by kernel_rfl, rfl, by decide⟩
set_option maxRecDepth 100000 in
theorem run_make_pts (x : Int) (n : Nat) (hx : x = n) (hn : n ≤ 1000000) (w : World) :
    (Instr.makeSlice 23 (.int .i64 x) (.int .i64 x)).run Try.prog w = .ok (.slice (some ⟨w.heap.size, 0, none⟩) n n) (w.alloc (.cells (zerosV (n * 3)) 82)) := by
  subst hx
  obtain ⟨i, hi, hz, hz1, hz2⟩ := el_pt.info
  rw [run_make_rowN 23 82 i _ el_pt.ht hi hz .i64 .i64 n n (Nat.le_refl _) (by rw [hz2]; omega) (by omega) w, hz1]
  congr 3
  rw [← zerosV_eq]
  unfold madeCells
  apply Array.ext
  · simp
  · intro j h1 h2
    have : j % 3 = 0 ∨ j % 3 = 1 ∨ j % 3 = 2 := by omega
    rcases this with h | h | h <;> simp [Value.cells, h]
theorem imgGet_yes (v : Value) (r : List Int) (m : Nat) (rest : List Int) (w : World) (B : Nat) (h : IsInts .u8 w B v r) (hg : GetR r m rest) :
    Calls Try.prog 98 #[v] w fun e w' => m ≤ 268435455 ∧ ∃ A c, e = .returned (.tuple #[.int .i64 (m : Nat), .slice A rest.length c, .bool true]) ∧ IsInts .u8 w' B (.slice A rest.length c) rest ∧ Drawn w w' := by
  refine (imgGet_any v r w B h).mono ?_
  rintro e w' (⟨m', rest', v', h1, h2, rfl, h3, h4⟩ | ⟨h1, _⟩)
  · obtain ⟨rfl, rfl⟩ := hg.uniq h1
    obtain ⟨A, c, rfl, _, _, _⟩ := h3.openB rfl
    exact ⟨h2, A, c, rfl, h3, h4⟩
  · exact absurd hg (h1 _ _)
theorem imgGet_no (v : Value) (r : List Int) (w : World) (B : Nat) (h : IsInts .u8 w B v r) (hg : ∀ m rest, ¬ GetR r m rest) :
    Calls Try.prog 98 #[v] w fun e w' => ∃ (x : Int) (A : Option Addr) (n c : Nat), e = .returned (.tuple #[.int .i64 x, .slice A n c, .bool false]) ∧ Drawn w w' := by
  refine (imgGet_any v r w B h).mono ?_
  rintro e w' (⟨m', rest', v', h1, _⟩ | ⟨_, x, A, n, c, rfl, h4⟩)
  · exact absurd h1 (hg _ _)
  · exact ⟨x, A, n, c, rfl, h4⟩
set_option maxRecDepth 100000 in
set_option maxHeartbeats 2000000 in
theorem imgPoints_any (v : Value) (b : List Int) (w : World) (B : Nat) (hB : B ≤ w.heap.size) (h : IsInts .u8 w B v b) (h5 : 5 ≤ b.length) :
    Calls Try.prog 44 #[v] w (GivesPts b w) := by
  have HI0 := Lib.hid h
  obtain ⟨A, c, rfl, hc, hm, hn, hr, hw⟩ := h
  obtain ⟨bk, off, rfl, hbk, hcells⟩ := ints_cells hr (by omega)
  have HT := Lib.hid (HI0.out.take_ (show 4 ≤ b.length by omega))
  have hD := HI0.out.drop_ (show 4 ≤ b.length by omega)
  rw [if_neg (by omega), Option.map_some, show (⟨bk, off, none⟩ : Addr).add 4 = ⟨bk, off + 4, none⟩ from by unfold Addr.add; rw [if_neg (by omega)]] at hD
  have HD := Lib.hid hD
  have kc := fun (w : World) (C : Array Value) (n c : Nat) => Lib.run_convert_bytes_const (P := Try.prog) w 22 5 C n c Try.underlying22 Try.underlying5
  clear hr hw hcells hD
  have hne : c ≠ 4 := by omega
  have HLit : Hid (IsInts .u8 (w.alloc (.cells #[.int .u8 68, .int .u8 65, .int .u8 77, .int .u8 49] 5 (4, 5))) (w.heap.size + 1) (.slice (some ⟨w.heap.size, 0, none⟩) 4 4) [68, 65, 77, 49]) := Lib.hid
    ⟨_, 4, rfl, Nat.le_refl _, by unfold maxLen; omega, by decide, ⟨rfl, fun _ => ⟨_, rfl, by simp, fun j u hu => by
      rw [show (⟨w.heap.size, 0, none⟩ : Addr).add j = ⟨w.heap.size, j, none⟩ from by unfold Addr.add; split <;> simp_all, cell_of_row _ _ j _ _ _ (heap_alloc_new w _), ← hu]; simp⟩⟩, by intro z hz; simp at hz; rcases hz with rfl | rfl | rfl | rfl <;> rfl⟩
  cases hh : eqL (b.take 4) [68, 65, 77, 49] with
  | false =>
    have HNo := Lib.hid (noImg_head (eqL_no hh))
    have HE := Lib.hid (equalBytes_any _ _ _ _ _ (w.alloc (.cells #[.int .u8 68, .int .u8 65, .int .u8 77, .int .u8 49] 5 (4, 5))) _ _ (HT.out.below ((Below.refl _ _).alloc hB _)) HLit.out hh)
    clear hh
    go_enter Try.func44, Try.ntmps44
    go_wp2_with (go_at_call 97; refine (HE.out).mono ?_; rintro e w1 ⟨rfl, hd1⟩)
    go_ret2
    exact .inr ⟨HNo.out, _, _, _, rfl, ((Below.refl _ _).alloc (Nat.le_refl _) _).trans (hd1.below _)⟩
  | true =>
    have HHead := Lib.hid (eqL_yes hh)
    have HE := Lib.hid (equalBytes_any _ _ _ _ _ (w.alloc (.cells #[.int .u8 68, .int .u8 65, .int .u8 77, .int .u8 49] 5 (4, 5))) _ _ (HT.out.below ((Below.refl _ _).alloc hB _)) HLit.out hh)
    clear hh
    have HLb : Hid (Below w.heap.size w (w.alloc (.cells #[.int .u8 68, .int .u8 65, .int .u8 77, .int .u8 49] 5 (4, 5)))) := Lib.hid ((Below.refl _ _).alloc (Nat.le_refl _) _)
    by_cases hg : ∃ m rest, GetR (b.drop 4) m rest
    rotate_left
    · have hgn : ∀ m rest, ¬ GetR (b.drop 4) m rest := fun m rest h => hg ⟨m, rest, h⟩
      have HNo := Lib.hid (noImg_count (b := b) fun m rest h => absurd h (hgn m rest))
      have HGet := Lib.hid fun w1 (hb : Below w.heap.size w w1) => imgGet_no _ _ w1 B (HD.out.below (hb.mono hB)) hgn
      clear hg hgn
      go_enter Try.func44, Try.ntmps44
      go_wp2_with (first
        | (go_at_call 97; refine (HE.out).mono ?_; rintro e w1 ⟨rfl, hd1⟩; have HB1 := Lib.hid (HLb.out.trans (hd1.below _)); clear hd1)
        | (go_at_call 98; refine (HGet.out _ HB1.out).mono ?_; rintro e w2 ⟨x, A', n', c', rfl, hd2⟩; have HB2 := Lib.hid (HB1.out.trans (hd2.below _)); clear hd2))
      go_ret2
      exact .inr ⟨HNo.out, _, _, _, rfl, HB2.out⟩
    · obtain ⟨m, rest, hg⟩ := hg
      have HG := Lib.hid hg
      have HGet := Lib.hid fun w1 (hb : Below w.heap.size w w1) => imgGet_yes _ _ m rest w1 B (HD.out.below (hb.mono hB)) HG.out
      clear hg
      by_cases h150 : 150 < m
      · have HNo := Lib.hid (noImg_count (b := b) fun m' rest' h => by obtain ⟨rfl, _⟩ := HG.out.uniq h; exact h150)
        go_enter Try.func44, Try.ntmps44
        go_wp2_with (first
          | (go_at_call 97; refine (HE.out).mono ?_; rintro e w1 ⟨rfl, hd1⟩; have HB1 := Lib.hid (HLb.out.trans (hd1.below _)); clear hd1)
          | (go_at_call 98; refine (HGet.out _ HB1.out).mono ?_; rintro e w2 ⟨hmb, A', c', rfl, hi2, hd2⟩; have HB2 := Lib.hid (HB1.out.trans (hd2.below _)); clear hd2 hi2))
        go_ret2
        exact .inr ⟨HNo.out, _, _, _, rfl, HB2.out⟩
      · have hmk := fun w' => run_make_pts (m : Int) m rfl (by omega) w'
        go_enter Try.func44, Try.ntmps44
        go_wp2_with (first
          | (go_at_call 97; refine (HE.out).mono ?_; rintro e w1 ⟨rfl, hd1⟩; have HB1 := Lib.hid (HLb.out.trans (hd1.below _)); clear hd1)
          | (go_at_call 98; refine (HGet.out _ HB1.out).mono ?_; rintro e w2 ⟨hmb, A', c', rfl, hi2, hd2⟩; have HB2 := Lib.hid (HB1.out.trans (hd2.below _)); have HI2 := Lib.hid hi2; clear hd2 hi2))
        have hz2 := HB2.out.size
        have HSt : Hid (PtSt 82 w B b m w2.heap.size 0 (.slice A' rest.length c') (List.replicate (m * 3) 0) rest (w2.alloc (.cells (zerosV (m * 3)) 82))) := Lib.hid
          ⟨by simp, by rw [bodyL_0, ← HHead.out, List.append_assoc, ← HG.out.1, List.take_append_drop], fun z hz => by rw [(List.mem_replicate.1 hz).2]; omega, IBlk.zerosV_at _ _ _ _ rfl, HI2.out.below ((Below.refl B w2).alloc (by omega) _), HB2.out.alloc hz2 _⟩
        clear hmk HI2 HB2 HB1 HE HGet HT HD HHead HG kc
        obtain ⟨g, hgg⟩ : ∃ g : Nat, g = w2.heap.size := ⟨_, rfl⟩
        rw [← hgg] at HSt ⊢
        generalize w2.alloc (.cells (zerosV (m * 3)) 82) = W0 at *
        have hgw : w.heap.size ≤ g := by omega
        clear hgg
        go_loopw [5, 8, 37] (fun rv _ iv wr => ∃ (i : Nat) (o r : List Int), i ≤ m ∧ iv = .int .i64 i ∧ PtSt 82 w B b m g (i * 3) rv o r wr) (fun _ _ iv _ => m - (intOf iv).toNat)
        case atStart => exact ⟨0, _, _, by omega, rfl, by rw [Nat.zero_mul]; exact HSt.out⟩
        case round =>
          obtain ⟨i, o, r, hi, rfl, hst⟩ := hrel
          have HS := Lib.hid hst
          have hgl := hst.2.2.2.1.lt
          have hbz := hst.2.2.2.2.2.size
          obtain ⟨A3, c3, rfl, _, _, _⟩ := hst.2.2.2.2.1.openB rfl
          by_cases hlt : i < m
          · clear hst
            go_wp2_with fail
            go_region
            go_wp2_with fail
            obtain ⟨wq, rfl⟩ : ∃ wq : World, wq = wr := ⟨_, rfl⟩
            have HPb : Hid (Blk (wq.alloc (.cells #[.pointer (some ⟨g, i * 3, none⟩), .pointer (some ⟨g, i * 3 + 1, none⟩), .pointer (some ⟨g, i * 3 + 2, none⟩)] 145)).drew wq.heap.size 145 #[.pointer (some ⟨g, i * 3, none⟩), .pointer (some ⟨g, i * 3 + 1, none⟩), .pointer (some ⟨g, i * 3 + 2, none⟩)]) := Lib.hid (Blk.drew (Blk.new _ _ _))
            have HS0 : Hid (PtSt 82 w B b m g (i * 3) (.slice A3 r.length c3) o r (wq.alloc (.cells #[.pointer (some ⟨g, i * 3, none⟩), .pointer (some ⟨g, i * 3 + 1, none⟩), .pointer (some ⟨g, i * 3 + 2, none⟩)] 145)).drew) := Lib.hid (HS.out.below hB (((Below.refl _ _).alloc (Nat.le_refl _) _).trans ((Drawn.refl _).drew.below _)))
            generalize (wq.alloc (.cells #[.pointer (some ⟨g, i * 3, none⟩), .pointer (some ⟨g, i * 3 + 1, none⟩), .pointer (some ⟨g, i * 3 + 2, none⟩)] 145)).drew = W1 at *
            go_loopw [5, 10, 11, 12, 13, 54] (fun rv _ _ _ _ tv w3 => ∃ (t : Nat) (o r : List Int), t ≤ 3 ∧ tv = .int .i64 t ∧ PtSt 82 w B b m g (i * 3 + t) rv o r w3 ∧ Blk w3 wq.heap.size 145 #[.pointer (some ⟨g, i * 3, none⟩), .pointer (some ⟨g, i * 3 + 1, none⟩), .pointer (some ⟨g, i * 3 + 2, none⟩)]) (fun _ _ _ _ _ tv _ => 3 - (intOf tv).toNat)
            case atStart => exact ⟨0, _, _, by omega, rfl, HS0.out, HPb.out⟩
            case round =>
              obtain ⟨t, o2, r2, ht, rfl, hst, hpb⟩ := hrel
              have HS2 := Lib.hid hst
              have HP2 := Lib.hid hpb
              have hz7 := hst.2.2.2.2.2.size
              obtain ⟨A5, c5, rfl, _, _, _⟩ := hst.2.2.2.2.1.openB rfl
              by_cases hlt3 : t < 3
              · have k0 : wr.cell? ⟨wq.heap.size, t, none⟩ = some (.pointer (some ⟨g, i * 3 + t, none⟩)) := by
                  rw [hpb.cell]
                  match t, hlt3 with
                  | 0, _ => rfl
                  | 1, _ => rfl
                  | 2, _ => rfl
                have hk3 : i * 3 + t < m * 3 := by omega
                have f1 := hst.2.2.2.1.frozen (i * 3 + t)
                have k1 := hst.2.2.2.1.cell (i := i * 3 + t) (by have := hst.1; omega)
                by_cases hg : ∃ m' rest', GetR r2 m' rest'
                · obtain ⟨m', rest', hg⟩ := hg
                  have HG2 := Lib.hid hg
                  have HGet := Lib.hid (imgGet_yes _ r2 m' rest' wr B hst.2.2.2.2.1 hg)
                  generalize o2.getD (i * 3 + t) 0 = ov at *
                  clear hst hpb hg
                  go_wp2_with (first
                    | (go_at_call 98; refine (HGet.out).mono ?_; rintro e w4 ⟨hmb4, A6, c6, rfl, hi4, hd4⟩; have HI4 := Lib.hid hi4; have HD4 := Lib.hid hd4; obtain ⟨nd, rfl⟩ := hd4; clear hi4)
                    | (go_at_call 99; refine (imgUnfold_any _ _ (by omega)).mono ?_; rintro e w5 ⟨rfl, rfl⟩))
                  go_roundw
                  case rel =>
                    have hS3 := (HS2.out.below hB (HD4.out.below _)).step hB HG2.out hmb4 hk3 hgw HI4.out
                    exact ⟨t + 1, _, _, by omega, by go_num, hS3, (HP2.out.drewN nd).far (p := ⟨g, i * 3 + t, none⟩) (by show wq.heap.size ≠ g; omega) _⟩
                  case measure => simp [intOf]; omega
                · have HNo := Lib.hid (noImg_num hst.2.1 hk3 fun m' rest' h => hg ⟨m', rest', h⟩)
                  have HGet := Lib.hid (imgGet_no _ r2 wr B hst.2.2.2.2.1 fun m' rest' h => hg ⟨m', rest', h⟩)
                  have HBe := Lib.hid hst.2.2.2.2.2
                  generalize o2.getD (i * 3 + t) 0 = ov at *
                  clear hst hpb hg
                  go_wp2_with (go_at_call 98; refine (HGet.out).mono ?_; rintro e w4 ⟨x4, A6, n6, c6, rfl, hd4⟩; have HD4 := Lib.hid hd4; clear hd4)
                  go_ret2
                  exact .inr ⟨HNo.out, _, _, _, rfl, HBe.out.trans (HD4.out.below _)⟩
              · obtain rfl : t = 3 := by omega
                clear hst hpb
                go_wp2_with fail
                go_roundw
                case rel => exact ⟨i + 1, _, _, by omega, by go_num, by rw [show (i + 1) * 3 = i * 3 + 3 from by omega]; exact HS2.out⟩
                case measure => simp [intOf]; omega
          · obtain rfl : i = m := by omega
            obtain ⟨h1, h2, h3, h4, h5', h6⟩ := hst
            have HIb := Lib.hid h4
            have HBe := Lib.hid h6
            have HLo := Lib.hid h1
            have HBd := Lib.hid h3
            by_cases hr0 : r.length = 0
            · have hrn : r = [] := List.length_eq_zero_iff.1 hr0
              have HP : Hid (PtsR b i o) := Lib.hid ⟨by omega, h1, by rw [h2, hrn, List.append_nil], h3⟩
              have t0 : ((r.length : Int) == 0) = true := by simp; omega
              clear h1 h2 h3 h4 h5' h6 hrn hr0
              go_wp2_with fail
              go_ret2
              refine .inl ⟨i, o, _, HP.out, rfl, ⟨_, i, rfl, Nat.le_refl _, by unfold maxLen; omega, by omega, HLo.out, ?_, fun z hz => int_wf (by have := HBd.out z hz; unfold I64; omega)⟩, HBe.out⟩
              have := HIb.out.reads
              exact ⟨by rw [List.length_map]; exact HLo.out, fun hn => ⟨_, rfl, HIb.out.lt, (this.2 (by have := HLo.out; omega)).elim fun ad had => by
                obtain ⟨e1, _, e3⟩ := had
                injection e1 with e1
                subst e1
                exact e3⟩⟩
            · have HNo := Lib.hid (noImg_rest (by rw [← h2]) fun e => hr0 (by rw [e]; rfl))
              have t0 : ((r.length : Int) == 0) = false := by rw [beq_eq_false_iff_ne]; omega
              clear h1 h2 h3 h4 h5' h6 hr0
              go_wp2_with fail
              go_ret2
              exact .inr ⟨HNo.out, _, _, _, rfl, HBe.out⟩
end Go.Proofs.Ytaipnjoeejgnnaa
