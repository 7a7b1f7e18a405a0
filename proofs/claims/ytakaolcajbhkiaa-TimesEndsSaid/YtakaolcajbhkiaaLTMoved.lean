/- The law TimesMoved, walked. -/
import Derived.Test.YtakaolcajbhkiaaLTOne
import Derived.Test.YtakaolcajbhkiaaTm4
namespace Go.SL
open Go.RowKit
/-- The end of a slice, from the m-th on. -/
theorem is_drop {w : World} {g off n c m : Nat} {xs : List Value} (h : SliceIs w 1 (.slice (some ⟨g, off, none⟩) n c) n xs) (hm : m ≤ n) {off' c' : Nat} (ho : off' = off + m ∨ n - m = 0) (hc : n - m ≤ c') (hcm : c' ≤ maxLen) :
    SliceIs w 1 (.slice (some ⟨g, off', none⟩) (n - m) c') (n - m) (xs.drop m) := by
  obtain ⟨hl, h⟩ := h
  rcases h with ⟨h0, _⟩ | ⟨ad, cp, h0, h1, h2, h3⟩
  · cases h0
  · simp only [Value.slice.injEq, Option.some.injEq] at h0
    obtain ⟨rfl, _, rfl⟩ := h0
    refine ⟨by rw [List.length_drop]; omega, .inr ⟨_, c', rfl, hc, hcm, fun j x hj => ?_⟩⟩
    rcases ho with rfl | h0
    · rw [List.getElem?_drop] at hj
      have := h3 _ x hj
      rw [add_plain'] at this ⊢
      rw [← this]
      congr 2
      omega
    · have := (List.getElem?_eq_some_iff.1 hj).1
      rw [List.length_drop] at this
      omega
theorem bv_drop (l : List Nat) (m : Nat) : Go.SL.bv (l.drop m) = (Go.SL.bv l).drop m := by simp [bv, List.map_drop]
end Go.SL
namespace Go.Proofs.Ytakaolcajbhkiaa
open Go.RowKit Go.SL Go.Fm
set_option linter.unusedVariables false
set_option linter.unusedSimpArgs false

set_option maxRecDepth 100000 in
set_option maxHeartbeats 8000000 in
theorem TimesMoved_c (v0 v1 v2 : Value) (L : List (List Int)) (N : List Int) (w : World) (F : List HProp) (H : Holds w F) (hL : RowsSeen F iv v0 L) (hI : ∀ l ∈ L, I64 l ∧ l.length ≤ 20000000000000)
    (hN : Sees F 1 v2 N.length (iv N)) (hIN : I64 N) (hNl : N.length ≤ maxLen) :
    Calls Try.prog 7 #[.agg #[v0, v1, v2]] w (Ret w (.bool true) F) := by
  obtain ⟨i1, hj, hy0, hy1', hy2'⟩ := info_parts info_i64
  obtain ⟨a0, k0, rfl⟩ := hL.shape H
  obtain ⟨a2, k2, rfl⟩ := slice_shape' (hN w H)
  unfold maxLen at hNl
  have HB := H.alloc (.cells #[.slice a0 L.length k0, v1, .slice a2 N.length k2] 26)
  go_enter Try.func7, Try.ntmps7
  go_wp2
  go_loopw [3, 4] (fun s3 s4 wl => ∃ (i al : Nat), i ≤ 100 ∧ al ≤ 16384 ∧ s3 = .int .i64 al ∧ s4 = .int .i64 i ∧ Holds wl (pts w.heap.size (.cells #[.slice a0 L.length k0, v1, .slice a2 N.length k2] 26 (0, 0)) :: F) ∧ Str w wl) (fun _ s4 _ => (200 - intOf s4).toNat)
  case atStart => exact ⟨0, 0, by omega, by omega, rfl, rfl, HB, (Str.refl w).alloc _⟩
  case round =>
    clear HB
    obtain ⟨i, al, hi, hal, rfl, rfl, Hr, Sr⟩ := hrel
    have cb := Hr.cell 0
    have cb2 := Hr.cell 2
    simp at cb cb2
    by_cases hin : i < L.length ∧ i < 100
    · obtain ⟨hiL, hi100⟩ := hin
      obtain ⟨g, off, cap, u, hv, hcap, hcm, hcu, hsu⟩ := hL.row Hr.tail hiL
      simp only [Value.slice.injEq] at hv
      obtain ⟨rfl, _, rfl⟩ := hv
      obtain ⟨l, hl⟩ : ∃ l, l = L[i] := ⟨_, rfl⟩
      obtain ⟨hil, hlm⟩ := hI _ (List.getElem_mem hiL)
      rw [← hl] at hsu hil hlm
      rw [length_iv] at hsu
      replace hl := Lib.hid hl
      unfold maxLen at hcm
      obtain ⟨au, cu, rfl⟩ := slice_shape' (hsu _ Hr.tail)
      by_cases hall : 16384 < al + l.length
      · have hall' : (16384 : Int) < (al : Int) + l.length := by omega
        go_wp2_with fail
        refine (works6_c _ _ Hr).mono ?_
        rintro e w1 ⟨rfl, H1, S1⟩
        go_wp2_with fail
        refine bodyPost_ret (results_tmp rfl _ _ _) rfl ⟨rfl, H1.tail, Sr.trans S1⟩
      · have hall' : ¬ (16384 : Int) < (al : Int) + l.length := by omega
        by_cases hlen : 4096 < l.length
        · go_wp2_with fail
          refine (works6_c _ _ Hr).mono ?_
          rintro e w1 ⟨rfl, H1, S1⟩
          go_wp2_with fail
          refine bodyPost_ret (results_tmp rfl _ _ _) rfl ⟨rfl, H1.tail, Sr.trans S1⟩
        · by_cases hr : Rising l
          · by_cases hn0 : 0 < l.length
            · have hd : ((l.length : Int) == 0) = false := beq_eq_false_iff_ne.2 (by omega)
              have hR := rising6_c _ l wr (hsu _ Hr.tail) (by omega)
              obtain ⟨gl, ofl, cl, hvl, hcl, hcml, hcell⟩ := (hsu _ Hr.tail).at hn0
              simp only [Value.slice.injEq] at hvl
              obtain ⟨rfl, _, rfl⟩ := hvl
              unfold maxLen at hcml
              go_upto_if 47 with (go_at_call 9; refine hR.mono ?_; rintro e w2 ⟨b2, rfl, hb2, n2, rfl⟩; obtain rfl : b2 = true := hb2.2 hr; clear hb2; have H2 := Hr.drewN n2; have S2 := Sr.drewN n2; have cN := cb2; have hc2 : ∀ j x, (iv l)[j]? = some x → (wr.drewN n2).cell? ⟨gl, ofl + j, none⟩ = some x := hcell; have cN : (wr.drewN n2).cell? ⟨w.heap.size, 2, none⟩ = _ := cb2; clear cb cb2 hcu; generalize wr.drewN n2 = w2 at H2 S2 hc2 cN ⊢)
              have hlo : ∀ k, k < l.length → l.getD 0 0 ≤ l.getD k 0 := fun k hk => hr.le 0 k (Nat.zero_le _) hk
              have hhi : ∀ k, k < l.length → l.getD k 0 ≤ l.getD (l.length - 1) 0 := fun k hk => hr.le k (l.length - 1) (by omega) (by omega)
              have c0 := hc2 0 _ (iv_at hn0)
              have cz := hc2 (l.length - 1) _ (iv_at (by omega))
              rw [Nat.add_zero] at c0
              obtain ⟨t0, ht0⟩ : ∃ t, t = l.getD 0 0 := ⟨_, rfl⟩
              obtain ⟨tz, htz⟩ : ∃ t, t = l.getD (l.length - 1) 0 := ⟨_, rfl⟩
              obtain ⟨b01, b02⟩ := hil.getD 0
              obtain ⟨bz1, bz2⟩ := hil.getD (l.length - 1)
              rw [← ht0] at c0 hlo b01 b02
              rw [← htz] at cz hhi bz1 bz2
              have h0z : t0 ≤ tz := by rw [ht0]; exact hhi 0 hn0
              have ix : ((l.length : Int) - 1).toNat = l.length - 1 := by omega
              have ix0 : (0 : Int) ≤ (l.length : Int) - 1 := by omega
              have ix1 : (l.length : Int) - 1 < l.length := by omega
              have ixl : (0 : Int) < l.length := by omega
              replace ht0 := Lib.hid ht0
              replace htz := Lib.hid htz
              replace hr := Lib.hid hr
              replace hlo := Lib.hid hlo
              replace hhi := Lib.hid hhi
              replace hil := Lib.hid hil
              replace hc2 := Lib.hid hc2
              clear hcell
              go_upto_if 52 with fail
              go_cut [6] (fun s6 wc => ∃ b : Int, -9223372036854775808 ≤ b ∧ b ≤ 9223372036854775807 ∧ s6 = .int .i64 b ∧ wc = w2)
              case first =>
                by_cases hiN : i < N.length
                · obtain ⟨g2, off2, cap2, hv2, hcap2, hcm2, hcc2⟩ := (hN _ H2.tail).at (by omega)
                  simp only [Value.slice.injEq] at hv2
                  obtain ⟨rfl, _, rfl⟩ := hv2
                  unfold maxLen at hcm2
                  have d2 := hcc2 i _ (iv_at hiN)
                  obtain ⟨t, ht⟩ : ∃ t, t = N.getD i 0 := ⟨_, rfl⟩
                  rw [← ht] at d2
                  replace ht := Lib.hid ht
                  clear hcc2
                  go_wp2_with fail
                  go_meet
                  case rel => exact ⟨_, (wrap64_range _).1, (wrap64_range _).2, rfl, rfl⟩
                · go_wp2_with fail
                  go_meet
                  case rel => exact ⟨0, by omega, by omega, rfl, rfl⟩
              case rest =>
              obtain ⟨b, hb1, hb2, rfl, hwc⟩ := hcut
              obtain rfl := hwc.symm
              go_upto_region 12 with fail
              go_cut [83] (fun s83 wc => ∃ B : Bool, s83 = .bool B ∧ (B = false → -9223372036854775808 ≤ t0 + b ∧ tz + b ≤ 9223372036854775807) ∧ wc = w2)
              case first =>
                go_wp2_with fail
                all_goals
                  go_meet
                  case rel => exact ⟨_, rfl, fun h => by first | (simp at h; omega) | omega | (cases h), rfl⟩
              case rest =>
              obtain ⟨B, rfl, hB, hwc⟩ := hcut
              obtain rfl := hwc.symm
              go_upto_if 83 with fail
              go_cut [6] (fun s6 wc => ∃ b' : Int, s6 = .int .i64 b' ∧ (-9223372036854775808 ≤ t0 + b' ∧ tz + b' ≤ 9223372036854775807) ∧ wc = w2)
              case first =>
                cases B with
                | false =>
                  obtain ⟨q1, q2⟩ := hB rfl
                  clear hB
                  go_wp2_with fail
                  go_meet
                  case rel => exact ⟨b, rfl, ⟨q1, q2⟩, rfl⟩
                | true =>
                  clear hB
                  by_cases h0 : t0 < 0
                  · have hs : -9223372036854775808 ≤ t0 + 1 := by omega
                    go_wp2_with fail
                    all_goals
                      go_meet
                      case rel => exact ⟨_, rfl, by omega, rfl⟩
                  · go_wp2_with fail
                    all_goals
                      go_meet
                      case rel => exact ⟨_, rfl, by omega, rfl⟩
              case rest =>
              obtain ⟨b', rfl, hb', hwc⟩ := hcut
              obtain rfl := hwc.symm
              clear hB hb1 hb2
              have hbk : ∀ k, k < l.length → -9223372036854775808 ≤ l.getD k 0 + b' ∧ l.getD k 0 + b' ≤ 9223372036854775807 := by
                intro k hk
                have h1 := hlo.out k hk
                have h2 := hhi.out k hk
                omega
              replace hbk := Lib.hid hbk
              replace hb' := Lib.hid hb'
              go_wp2_with fail
              go_loopw [7, 8] (fun s7 s8 wl => ∃ (j : Nat) (m : List Int) (a' : Option Addr) (cap' : Nat), j ≤ l.length ∧ m.length = j ∧ s7 = .slice a' j cap' ∧ s8 = .int .i64 j ∧ (∀ i, i < j → m.getD i 0 = l.getD i 0 + b') ∧ I64 m ∧
                Holds wl (own 2 1 (.slice a' j cap') j (iv m) :: pts w.heap.size (.cells #[.slice (some ⟨g, off, none⟩) L.length k0, v1, .slice a2 N.length k2] 26 (0, 0)) :: F) ∧ Str w wl) (fun _ s8 _ => (5000 - intOf s8).toNat)
              case atStart => exact ⟨0, [], none, 0, by omega, rfl, rfl, rfl, fun i hi => (by omega), fun t ht => (by cases ht), Holds.own_nil H2, S2⟩
              case round =>
                obtain ⟨j, m, a', cap', hjl, hmlen, rfl, rfl, hml, hmI, Hq, Sq⟩ := hrel
                clear H2 S2 c0 cz cN Hr Sr
                replace hmlen := Lib.hid hmlen
                replace hml := Lib.hid hml
                replace hmI := Lib.hid hmI
                by_cases hj' : j < l.length
                · obtain ⟨g', off', cp', hv', hc1', hc2', hc'⟩ := (hsu _ Hq.tail.tail).at hn0
                  simp only [Value.slice.injEq, Option.some.injEq, Addr.mk.injEq] at hv'
                  obtain ⟨⟨rfl, rfl, _⟩, _, rfl⟩ := hv'
                  have d1 := hc' j _ (iv_at hj')
                  obtain ⟨t, ht⟩ : ∃ t, t = l.getD j 0 := ⟨_, rfl⟩
                  obtain ⟨htr1, htr2⟩ := hbk.out j hj'
                  rw [← ht] at d1 htr1 htr2
                  clear hc'
                  replace ht := Lib.hid ht
                  have hm' : ∀ i, i < j + 1 → (m ++ [t + b']).getD i 0 = l.getD i 0 + b' := by
                    intro i hi
                    have h1 := hmlen.out
                    by_cases hij : i = j
                    · rw [hij, ← ht.out, ← h1, getD_app_eq]
                    · rw [getD_app_lt (by omega)]; exact hml.out i (by omega)
                  have hI' : I64 (m ++ [t + b']) := by
                    intro u hu
                    rcases List.mem_append.1 hu with h' | h'
                    · exact hmI.out u h'
                    · rw [List.mem_singleton.1 h']; exact ⟨htr1, htr2⟩
                  replace hm' := Lib.hid hm'
                  replace hI' := Lib.hid hI'
                  go_wp2_with (at_builtin; refine wpList_append_sl rfl _ _ _ rfl i1 (.int .i64 0) Try.underlying27 hj hy0 hy1' hy2' rfl (by decide) rfl (x := .slice (some ⟨wr.heap.size, 0, none⟩) 1 1) rfl (Hq.alloc' _) (m := 1) (news := [.int .i64 (t + b')]) (slice_new wr _ _ _ 1 1 rfl (by decide)) (by simp [Value.oneCell']) (by omega) (by unfold maxLen; omega) ?_; intro v8 w8 H8 S8; obtain ⟨a8, k8, rfl⟩ := own_shape H8)
                  go_roundw
                  case rel => exact ⟨j + 1, m ++ [t + b'], a8, k8, by omega, by rw [List.length_append, List.length_singleton, hmlen.out], rfl, by congr 1, hm'.out, hI'.out, by rw [iv_append]; exact H8, (Sq.alloc _).trans S8⟩
                  case measure => (simp [intOf] <;> omega)
                · obtain rfl : j = l.length := by omega
                  have hmov := times_moved hn0 hml.out
                  have hP1 := tPack_ok _ l wr _ Hq hsu.cons.cons (by omega) hil.out hr.out
                  have hP2 := fun W G (HG : Holds W (G :: _)) => tPack_ok _ m W _ HG (by rw [hmlen.out]; exact (sees_own (E := 2) (v := .slice a' l.length cap') (F := pts w.heap.size (.cells #[.slice (some ⟨g, off, none⟩) L.length k0, v1, .slice a2 N.length k2] 26 (0, 0)) :: F)).cons) (by rw [hmlen.out]; omega) hmI.out (hr.out.moved hmlen.out hml.out)
                  obtain ⟨As, hAs⟩ : ∃ As, As = pack (tTo l l.length) := ⟨_, rfl⟩
                  obtain ⟨Bs, hBs⟩ : ∃ Bs, Bs = pack (tTo m m.length) := ⟨_, rfl⟩
                  rw [hmlen.out] at hBs
                  simp only [hmlen.out] at hP2
                  rw [← hAs] at hP1 hmov
                  simp only [← hBs] at hP2
                  rw [← hBs] at hmov
                  obtain ⟨hm1, hm2, hm3⟩ := hmov
                  replace hAs := Lib.hid hAs
                  replace hBs := Lib.hid hBs
                  replace hm3 := Lib.hid hm3
                  replace hm1 := Lib.hid hm1
                  go_wp2_with fail
                  refine hP1.mono ?_
                  rintro e w4 ⟨v4, rfl, H4, S4⟩
                  have hP3 := hP2 w4 _ H4
                  replace hP2 := Lib.hid hP2
                  go_wp2_with fail
                  refine hP3.mono ?_
                  rintro e w5 ⟨v5, rfl, H5, S5⟩
                  obtain ⟨ga, ca, resta, hva, hcapa, hcma, _, _, _⟩ := H5.swap.own_block (by omega)
                  subst hva
                  rw [← hm1.out] at H5
                  obtain ⟨gb, cb', restb, hvb, hcapb, hcmb, _, _, _⟩ := H5.own_block (by omega)
                  subst hvb
                  unfold maxLen at hcma hcmb
                  have hA := H5.swap.own_is
                  have hB := H5.own_is
                  obtain ⟨T, hT⟩ : ∃ T, T = As.drop 8 := ⟨_, rfl⟩
                  have hTl : T.length = As.length - 8 := by rw [hT, List.length_drop]
                  have qa : ∀ (o c' : Nat), (o = 8 ∨ As.length - 8 = 0) → As.length - 8 ≤ c' → c' ≤ maxLen → ∀ n, (convert 28 9 (.slice (some ⟨ga, o, none⟩) (As.length - 8) c')).run Try.prog (w5.drewN n) = .ok (.string (bstr T)) (w5.drewN n) := fun o c' h1 h2 h3 n => by
                    have h := is_drop (w := w5.drewN n) hA (m := 8) (by omega) (off' := o) (c' := c') (by omega) h2 h3
                    rw [← bv_drop, ← hT] at h
                    exact conv_str (P := Try.prog) (B := T) Try.underlying28 Try.underlying5 Try.underlying9 (by rw [hTl]; exact h)
                  have qb : ∀ (o c' : Nat), (o = 8 ∨ As.length - 8 = 0) → As.length - 8 ≤ c' → c' ≤ maxLen → ∀ n, (convert 28 9 (.slice (some ⟨gb, o, none⟩) (As.length - 8) c')).run Try.prog (w5.drewN n) = .ok (.string (bstr T)) (w5.drewN n) := fun o c' h1 h2 h3 n => by
                    have h := is_drop (w := w5.drewN n) hB (m := 8) (by omega) (off' := o) (c' := c') (by omega) h2 h3
                    rw [← bv_drop, ← hm3.out, ← hT] at h
                    exact conv_str (P := Try.prog) (B := T) Try.underlying28 Try.underlying5 Try.underlying9 (by rw [hTl]; exact h)
                  replace hA := Lib.hid hA
                  replace hB := Lib.hid hB
                  replace hT := Lib.hid hT
                  replace hTl := Lib.hid hTl
                  replace qa := Lib.hid qa
                  replace qb := Lib.hid qb
                  have hd8 : decide ((As.length : Int) < 8) = false := by simp; omega
                  have h8a : (8 : Int) ≤ (As.length : Int) := by omega
                  go_upto_region 25 with fail
                  by_cases hca : ca = 8
                  all_goals by_cases hcb : cb' = 8
                  · subst hca
                    have ha := qa.out 0 0 (by omega) (by omega) (by unfold maxLen; omega)
                    subst hcb
                    have hb := qb.out 0 0 (by omega) (by omega) (by unfold maxLen; omega)
                    have hz : As.length - 8 = 0 := by omega
                    rw [hz] at ha hb
                    replace hz := Lib.hid hz
                    go_quiet (first | (go_at_call 10; exact num6_q _ _ _) | fail)
                    go_wp2_with fail
                    go_roundw
                    case rel => exact ⟨i + 1, al + l.length, by omega, by omega, by congr 1, by congr 1, H5.tail.tail.tail.drewN _, ((Sq.trans S4).trans S5).drewN _⟩
                    case measure => (simp [intOf] <;> omega)
                  · subst hca
                    have ha := qa.out 0 0 (by omega) (by omega) (by unfold maxLen; omega)
                    have hcb' : ¬ (cb' : Int) = 8 := by omega
                    have hb := qb.out 8 (cb' - 8) (by omega) (by omega) (by unfold maxLen; omega)
                    have hz : As.length - 8 = 0 := by omega
                    rw [hz] at ha hb
                    replace hz := Lib.hid hz
                    go_quiet (first | (go_at_call 10; exact num6_q _ _ _) | fail)
                    go_wp2_with fail
                    go_roundw
                    case rel => exact ⟨i + 1, al + l.length, by omega, by omega, by congr 1, by congr 1, H5.tail.tail.tail.drewN _, ((Sq.trans S4).trans S5).drewN _⟩
                    case measure => (simp [intOf] <;> omega)
                  · have hca' : ¬ (ca : Int) = 8 := by omega
                    have ha := qa.out 8 (ca - 8) (by omega) (by omega) (by unfold maxLen; omega)
                    subst hcb
                    have hb := qb.out 0 0 (by omega) (by omega) (by unfold maxLen; omega)
                    have hz : As.length - 8 = 0 := by omega
                    rw [hz] at ha hb
                    replace hz := Lib.hid hz
                    go_quiet (first | (go_at_call 10; exact num6_q _ _ _) | fail)
                    go_wp2_with fail
                    go_roundw
                    case rel => exact ⟨i + 1, al + l.length, by omega, by omega, by congr 1, by congr 1, H5.tail.tail.tail.drewN _, ((Sq.trans S4).trans S5).drewN _⟩
                    case measure => (simp [intOf] <;> omega)
                  · have hca' : ¬ (ca : Int) = 8 := by omega
                    have ha := qa.out 8 (ca - 8) (by omega) (by omega) (by unfold maxLen; omega)
                    have hcb' : ¬ (cb' : Int) = 8 := by omega
                    have hb := qb.out 8 (cb' - 8) (by omega) (by omega) (by unfold maxLen; omega)
                    go_quiet (first | (go_at_call 10; exact num6_q _ _ _) | fail)
                    go_wp2_with fail
                    go_roundw
                    case rel => exact ⟨i + 1, al + l.length, by omega, by omega, by congr 1, by congr 1, H5.tail.tail.tail.drewN _, ((Sq.trans S4).trans S5).drewN _⟩
                    case measure => (simp [intOf] <;> omega)
            · have hd : ((l.length : Int) == 0) = true := by
                have h0 : l.length = 0 := by omega
                rw [h0]; rfl
              have hR := rising6_c _ l wr (hsu _ Hr.tail) (by omega)
              replace hn0 := Lib.hid hn0
              go_wp2_with fail
              refine hR.mono ?_
              rintro e w2 ⟨b2, rfl, hb2, n2, rfl⟩
              obtain rfl : b2 = true := hb2.2 hr
              clear hb2
              replace hr := Lib.hid hr
              replace Hr := Hr.drewN n2
              replace Sr := Sr.drewN n2
              generalize wr.drewN n2 = w2 at Hr Sr ⊢
              go_wp2_with fail
              go_roundw
              case rel => exact ⟨i + 1, al + l.length, by omega, by omega, by congr 1, by congr 1, Hr, Sr⟩
              case measure => (simp [intOf] <;> omega)
          · have hR := rising6_c _ l wr (hsu _ Hr.tail) (by omega)
            go_wp2_with fail
            refine hR.mono ?_
            rintro e w2 ⟨b2, rfl, hb2, n2, rfl⟩
            obtain rfl : b2 = false := by
              cases b2
              · rfl
              · exact absurd (hb2.1 rfl) hr
            clear hb2
            replace hr := Lib.hid hr
            replace Hr := Hr.drewN n2
            replace Sr := Sr.drewN n2
            generalize wr.drewN n2 = w2 at Hr Sr ⊢
            go_wp2_with fail
            go_roundw
            case rel => exact ⟨i + 1, al + l.length, by omega, by omega, by congr 1, by congr 1, Hr, Sr⟩
            case measure => (simp [intOf] <;> omega)
    · have hcase : i < L.length ∨ ¬ i < L.length := by omega
      rcases hcase with hjl | hjl
      all_goals
        go_wp2_with fail
        refine (works6_c _ _ Hr).mono ?_
        rintro e w1 ⟨rfl, H1, S1⟩
        go_wp2_with fail
        refine bodyPost_ret (results_tmp rfl _ _ _) rfl ⟨rfl, H1.tail, Sr.trans S1⟩
end Go.Proofs.Ytakaolcajbhkiaa
