/-
  Contract of the reference's GamDecoded, and the walk of the law GamDecodes. Conditions: the arguments can be read as data.
-/
import Derived.Test.YteblkbgcnoepnaaRefGamNext
import Derived.Test.YteblkbgcnoepnaaIntRows
namespace Go.Proofs.Yteblkbgcnoepnaa
open Go Go.RowKit Go.Dam
set_option linter.unusedVariables false
theorem refGamNext_any (k : Int) (v : Value) (l : List Bool) (w : World) (B x : Nat) (rest : List Bool) (cc : Int) (hk : kinded k) (h : IsBools w B v l) (hR : NextR k l x rest cc) :
    Calls Try.prog 55 #[.int .i64 k, v] w (NextOut B x rest cc w) := by
  rcases hk with rfl | rfl
  · rcases hR with ⟨_, hR⟩ | ⟨h2, _⟩
    · exact refGamNext_1 v l w B x rest cc h hR
    · exact absurd h2 (by decide)
  · exact refGamNext_2 v l w B x rest cc h hR
set_option maxRecDepth 100000 in
set_option maxHeartbeats 400000 in
theorem refGamDecode_kind (k : Int) (v : Value) (n : Int) (ws : List Nat) (w : World) (B : Nat) (hk : I64 k) (h : IsBits w B v n ws) (hn : ¬ kinded k) :
    Calls Try.prog 25 #[.int .i64 k, v] w (GivesInts [] 3 w) := by
  obtain ⟨e1, e2, e3, e4⟩ := not_kinded hn
  obtain ⟨s, rfl, _, _⟩ := h
  clear hn
  unfold I64 at hk
  go_enter Try.func25, Try.ntmps25
  go_wp2_with fail
  go_ret2
  exact ⟨_, rfl, isInts_nil _ _ _, (Below.refl _ _).alloc (Nat.le_refl _) _⟩
set_option maxRecDepth 100000 in
set_option maxHeartbeats 400000 in
theorem refGamDecode_form (k : Int) (v : Value) (n : Int) (ws : List Nat) (w : World) (B : Nat) (hB : B ≤ w.heap.size) (h : IsBits w B v n ws) (hn : kinded k) (hm : mayBits n ws = false) :
    Calls Try.prog 25 #[.int .i64 k, v] w (GivesInts [] 4 w) := by
  have hA : IsBits w B v n ws := h
  obtain ⟨s, rfl, _, _⟩ := h
  have HA := Lib.hid (refMay_any (.agg #[.int .i64 n, s]) n ws (w.alloc (.cells #[.int .i64 n, s] 24)) B (box_le hB) (hA.below ((Below.refl _ _).alloc hB _)))
  rw [hm] at HA
  clear hA hm
  rcases hn with rfl | rfl
  all_goals
    go_enter Try.func25, Try.ntmps25
    go_wp2_with (go_at_call 45; refine (HA.out).mono ?_; rintro e w1 ⟨rfl, hb⟩)
    go_ret2
    exact ⟨_, rfl, isInts_nil _ _ _, below_box hb⟩
set_option maxRecDepth 100000 in
set_option maxHeartbeats 2000000 in
theorem refGamDecode_some (k : Int) (v : Value) (n : Nat) (ws : List Nat) (r : List Int) (cc : Int) (w : World) (B : Nat) (hB : B ≤ w.heap.size) (h : IsBits w B v n ws) (hn : kinded k) (hm : mayBits n ws = true) (hR : DecG k (rowBits ws n) [] r cc) :
    Calls Try.prog 25 #[.int .i64 k, v] w (GivesInts r cc w) := by
  have hA : IsBits w B v n ws := h
  obtain ⟨s, rfl, _, hWs⟩ := h
  have HA := Lib.hid (refMay_any (.agg #[.int .i64 n, s]) n ws (w.alloc (.cells #[.int .i64 n, s] 24)) B (box_le hB) (hA.below ((Below.refl _ _).alloc hB _)))
  rw [hm] at HA
  have HBo := Lib.hid fun W (hW : Below (w.alloc (.cells #[.int .i64 n, s] 24)).heap.size (w.alloc (.cells #[.int .i64 n, s] 24)) W) => bools_any (.agg #[.int .i64 n, s]) n ws W B (Nat.le_trans hB (Nat.le_of_lt (size_box hW))) (hA.below ((below_box hW).mono hB)) hm
  have HN := Lib.hid hn
  have hnl := (may_facts hm).2.1
  obtain ⟨K, hK⟩ : ∃ K, K = k := ⟨_, rfl⟩
  have HR := Lib.hid hR
  have HNx := Lib.hid fun v l W B x rest cc h hR => refGamNext_any k v l W B x rest cc hn h hR
  rw [← hK] at HR
  have HNx2 : Hid (∀ v l W B x rest cc, IsBools W B v l → NextR K l x rest cc → Calls Try.prog 55 #[.int .i64 k, v] W (NextOut B x rest cc W)) := Lib.hid (by rw [hK]; exact HNx.out)
  clear hA hm hWs hR hK HNx HN
  rcases hn with rfl | rfl
  all_goals
    go_enter Try.func25, Try.ntmps25
    go_wp2_with (first
      | (go_at_call 45; refine (HA.out).mono ?_; rintro e w1 ⟨rfl, hb⟩; obtain ⟨k0, k1⟩ := box2 hb; have hz1 := size_box hb; have HB1 := Lib.hid hb; clear hb)
      | (go_at_call 46; refine (HBo.out _ HB1.out).mono ?_; rintro e w2 ⟨u, rfl, hu, hb2⟩; have HU := Lib.hid hu; have HB2 := Lib.hid hb2; obtain ⟨A1, c1, rfl, _⟩ := hu; clear hb2))
    go_loopw [6, 7] (fun ov lv wr => ∃ (q : List Bool) (o : List Int) (A1 : Option Addr) (c1 : Nat), lv = .slice A1 q.length c1 ∧ IsBools wr w2.heap.size lv q ∧ o.length + q.length ≤ n ∧ wr.ownsRow w2.heap.size 3 1 ov o.length (o.map (Value.int .i64)) ∧ (∀ z ∈ o, (Lit.int .i64 z).wf = true) ∧ DecG K q o r cc ∧ Below w2.heap.size w2 wr) (fun _ lv _ => match lv with | .slice _ n _ => n | _ => 0)
    case atStart => exact ⟨rowBits ws n, [], A1, c1, rfl, HU.out, by rw [rowBits_length]; simp, World.ownsRow_nil _ _ _ _, (fun z hz => by cases hz), HR.out, Below.refl _ _⟩
    case round =>
      clear HR HU HBo HA
      obtain ⟨q, o, A2, c2, rfl, hq, hlen, hown, hwf, hdec, hbel⟩ := hrel
      obtain ⟨A3, c3, rfl⟩ := own_shape hown
      have HQ := Lib.hid hq
      have HO := Lib.hid hown
      have HWf := Lib.hid hwf
      have HDe := Lib.hid hdec
      have HBe := Lib.hid hbel
      have HBT := Lib.hid ((below_box HB1.out).trans ((HB2.out.trans (hbel.mono HB2.out.size)).mono (Nat.le_of_lt hz1)))
      have hz3 := hbel.size
      clear hq hown hwf hdec hbel
      by_cases hlt : 0 < q.length
      · rcases HDe.out.open_ (List.length_pos_iff.1 hlt) with ⟨x, rest, hnx, hc0, rfl⟩ | ⟨x, rest, hnx, hd2⟩
        · have HN3 := Lib.hid (HNx2.out _ q wr w2.heap.size x rest cc HQ.out hnx)
          have hcc : (cc != 0) = true := by simpa using hc0
          clear hnx hc0 HDe
          go_wp2_with (go_at_call 55; refine (HN3.out).mono ?_; rintro e w3 ⟨v3, rfl, _, hd⟩)
          go_ret2
          exact ⟨_, rfl, isInts_nil _ _ _, HBT.out.trans (hd.below _)⟩
        · have HN3 := Lib.hid (HNx2.out _ q wr w2.heap.size x rest 0 HQ.out hnx)
          obtain ⟨hx1, hx2, t, ht1, ht2, hrt⟩ := hnx.fact.1 rfl
          have hrl : rest.length + t = q.length := by rw [hrt, List.length_drop]; omega
          have HD2 := Lib.hid hd2
          generalize hol : o.length = ol at *
          have HOL := Lib.hid hol
          clear hnx hd2 HDe hrt hol
          go_wp2_with (first
            | (go_at_call 55; refine (HN3.out).mono ?_; rintro e w3 ⟨v3, rfl, hv3, ⟨nd, rfl⟩⟩; have HV3 := Lib.hid hv3; obtain ⟨A4, c4, rfl, _⟩ := hv3)
            | (at_builtin; refine wpList_push el_int rfl (.tmp 35) (.tmp 37) rfl w2.heap.size (.slice A3 ol c3) ol _ (World.ownsRow.alloc (w := wr.drewN nd) HO.out _) rfl wr.heap.size 1 _ rfl (new_cell (by simp)) rfl (by omega) (by omega) (by simp; omega) ?_; intro v' w4 hown4 hg4))
          have hg' : Below w2.heap.size (wr.drewN nd) w4 := (Below.alloc (w := wr.drewN nd) (Below.refl _ _) (by simp; omega) _).trans (below_push (Below.refl _ _) (World.ownsRow.alloc (w := wr.drewN nd) HO.out _) (Nat.le_refl _) (by simp; omega) hg4)
          refine ⟨⟨rest, o ++ [(x : Int)], A4, c4, rfl, HV3.out.below hg', by have := HOL.out; simp; omega, by rw [List.length_append, HOL.out, List.map_append]; exact hown4, ?_, HD2.out, (below_drewN HBe.out nd).trans hg'⟩, ?_⟩
          · intro z hz
            rcases List.mem_append.1 hz with h | h
            · exact HWf.out z h
            · simp at h; subst h; simp [Lit.wf, IntKind.min, IntKind.max, IntKind.signed, IntKind.bits]; omega
          · show rest.length < q.length
            omega
      · have hq0 : q = [] := List.eq_nil_of_length_eq_zero (by omega)
        have hl0 : q.length = 0 := by omega
        rw [hl0]
        rcases HDe.out.end_ hq0 with ⟨h3, rfl, rfl⟩ | ⟨h3, rfl, rfl⟩
        · have h3' : ¬ 300 < r.length := by omega
          have HI := Lib.hid (own_ints HO.out (by omega) HWf.out)
          clear HDe hq0 hl0
          go_wp2_with fail
          go_ret2
          exact ⟨_, rfl, HI.out, HBT.out⟩
        · clear HDe hq0 hl0
          go_wp2_with fail
          go_ret2
          exact ⟨_, rfl, isInts_nil _ _ _, HBT.out⟩
theorem refGamDecode_any (k : Int) (v : Value) (n : Int) (ws : List Nat) (r : List Int) (cc : Int) (w : World) (B : Nat) (hB : B ≤ w.heap.size) (hk : I64 k) (h : IsBits w B v n ws) (hR : DecR k n ws (rowBits ws n.toNat) r cc) :
    Calls Try.prog 25 #[.int .i64 k, v] w (GivesInts r cc w) := by
  rcases hR with ⟨hn, rfl, rfl⟩ | ⟨hn, hm, rfl, rfl⟩ | ⟨hn, hm, hR⟩
  · exact refGamDecode_kind k v n ws w B hk h hn
  · exact refGamDecode_form k v n ws w B hB h hn hm
  · obtain ⟨N, rfl⟩ := Int.eq_ofNat_of_zero_le (may_facts hm).1
    exact refGamDecode_some k v N ws r cc w B hB h hn hm hR
theorem gamDecodes_walk (u v : Value) (w : World) (h0 : ∃ x : Int, u = .int .i64 x ∧ I64 x) (h : ∃ n ws, IsBits w w.heap.size v n ws) :
    Calls Try.prog 7 #[u, v] w fun e w' => e = .returned (.bool true) ∧ Below w.heap.size w w' := by
  obtain ⟨k, rfl, hk⟩ := h0
  obtain ⟨n, ws, h⟩ := h
  obtain ⟨r, cc, hR⟩ := DecR.ex k n ws (rowBits ws n.toNat)
  obtain ⟨s, rfl⟩ : ∃ s, v = .agg #[.int .i64 n, s] := by obtain ⟨s, e, _⟩ := h; exact ⟨s, e⟩
  have HH := Lib.hid h
  have C1 := Lib.hid fun W (hW : Below w.heap.size w W) => gamDecode_any k _ n ws r cc W _ hW.size hk (h.below hW) hR
  have C2 := Lib.hid fun W (hW : Below w.heap.size w W) => refGamDecode_any k _ n ws r cc W _ hW.size hk (h.below hW) hR
  clear h hR
  unfold I64 at hk
  go_enter Try.func7, Try.ntmps7
  go_wp2_with (first
    | (go_at_call 24; refine (C1.out _ ((Below.refl _ _).alloc (Nat.le_refl _) _)).mono ?_; rintro e w1 ⟨v1, rfl, h1, hb⟩; obtain ⟨k0, k1⟩ := box2 hb; have hs1 := size_box hb; have HB := Lib.hid hb; have H1 := Lib.hid h1; obtain ⟨A1, c1, rfl, _⟩ := h1; clear hb)
    | (go_at_call 25; refine (C2.out _ (below_box HB.out)).mono ?_; rintro e w2 ⟨v2, rfl, h2, hb2⟩; have hz2 := hb2.size; have HB2 := Lib.hid hb2; have H2 := Lib.hid h2; obtain ⟨A2, c2, rfl, _⟩ := h2; clear hb2)
    | (go_at_call 26; refine (sameInts_any _ _ r _ w2.heap.size ((H1.out.below HB2.out).more hz2) H2.out).mono ?_; rintro e w3 ⟨rfl, hd3⟩))
  all_goals (go_ret; exact ⟨ret_bool (by simp), ((below_box HB.out).trans (HB2.out.mono (by omega))).trans (hd3.below _)⟩)
end Go.Proofs.Yteblkbgcnoepnaa
