/- The law TimesSteady, walked. -/
import Derived.Test.YtakaolcajbhkiaaLTm2
import Derived.Test.YtakaolcajbhkiaaTm4
import Derived.Test.YtakaolcajbhkiaaLSplit0
import Derived.WalkSpells
import Derived.Deep.CutBlock
import Derived.Deep.DeepCutAuto
import Derived.Deep.LoopGhost
namespace Go.Proofs.Ytakaolcajbhkiaa
open Go.RowKit Go.SL Go.Fm
set_option linter.unusedVariables false
set_option linter.unusedSimpArgs false

/-- A row at equal distances. -/
def SteadyL (l : List Int) (y : Nat) : Prop := ∀ i, i + 1 < l.length → l.getD (i + 1) 0 = l.getD i 0 + y
theorem SteadyL.rising {l : List Int} {y : Nat} (h : SteadyL l y) (hy : 1 ≤ y) : Rising l := fun i hi => by have := h i hi; omega
theorem SteadyL.snoc {l : List Int} {y : Nat} {t : Int} (h : SteadyL l y) (ht : 0 < l.length → t = l.getD (l.length - 1) 0 + y) : SteadyL (l ++ [t]) y := by
  intro i hi
  rw [List.length_append, List.length_singleton] at hi
  by_cases hl : i + 1 = l.length
  · rw [hl, getD_app_eq, getD_app_lt (by omega), ht (by omega)]
    congr 2
    omega
  · rw [getD_app_lt (by omega), getD_app_lt (by omega)]
    exact h i (by omega)
theorem I64.snoc {l : List Int} {t : Int} (h : I64 l) (h1 : -9223372036854775808 ≤ t) (h2 : t ≤ 9223372036854775807) : I64 (l ++ [t]) := by
  intro u hu
  rcases List.mem_append.1 hu with h' | h'
  · exact h u h'
  · rw [List.mem_singleton.1 h']; exact ⟨h1, h2⟩
/-- What stands behind the first loop. -/
def SteadyAt (y : Nat) (bx : Nat) (cs : Array Value) (w : World) (F : List HProp) (s5 : Value) (wc : World) : Prop :=
  ∃ (l : List Int) (a : Option Addr) (cap : Nat), l.length ≤ 4096 ∧ s5 = .slice a l.length cap ∧ SteadyL l y ∧ I64 l ∧ Holds wc (own 2 1 (.slice a l.length cap) l.length (iv l) :: pts bx (.cells cs 40 (0, 0)) :: F) ∧ Str w wc

set_option maxRecDepth 100000 in
set_option maxHeartbeats 8000000 in
theorem TimesSteady_c (f b0 c : Int) (w : World) (F : List HProp) (H : Holds w F) (hf : -9223372036854775808 ≤ f ∧ f ≤ 9223372036854775807) (hb : -9223372036854775808 ≤ b0 ∧ b0 ≤ 9223372036854775807) (hc : -9223372036854775808 ≤ c ∧ c ≤ 9223372036854775807) :
    Calls Try.prog 5 #[.agg #[.int .i64 f, .int .i64 b0, .int .i64 c]] w (Ret w (.bool true) F) := by
  have HB := H.alloc (.cells #[.int .i64 f, .int .i64 b0, .int .i64 c] 40)
  obtain ⟨hf1, hf2⟩ := hf
  obtain ⟨hb1, hb2⟩ := hb
  go_enter Try.func5, Try.ntmps5
  go_upto_if 19 with fail
  go_cut [3] (fun s3 wc => ∃ y : Nat, 1 ≤ y ∧ y ≤ 9223372036854775807 ∧ s3 = .int .i64 (y : Nat) ∧ wc = w.alloc (.cells #[.int .i64 f, .int .i64 b0, .int .i64 c] 40))
  case first =>
    by_cases h1 : b0 < 1
    · go_wp2_with fail
      go_meet
      case rel => exact ⟨1, by omega, by omega, rfl, rfl⟩
    · go_wp2_with fail
      go_meet
      case rel => exact ⟨b0.toNat, by omega, by omega, by congr 1; omega, rfl⟩
  case rest =>
    obtain ⟨y, hy1, hy2, rfl, hwc⟩ := hcut
    obtain rfl := hwc
    clear hb1 hb2
    have hn0 : 0 ≤ c % 4097 := by omega
    have hn1 : c % 4097 ≤ 4096 := by omega
    obtain ⟨n, hn⟩ : ∃ n : Nat, (n : Int) = c % 4097 := ⟨(c % 4097).toNat, by omega⟩
    have hn4 : n ≤ 4096 := by omega
    have hW := Within_c c 4097 hc (by omega) (by omega)
    rw [← hn] at hW
    replace hn := Lib.hid hn
    obtain ⟨i1, hj, hy0, hy1', hy2'⟩ := info_parts info_i64
    go_upto_block 0 with (go_at_call 14; refine (hW _).mono ?_; rintro e w' ⟨rfl, hw'⟩; obtain rfl := hw'.symm)
    go_cut [5] (fun s5 wc => SteadyAt y w.heap.size #[.int .i64 f, .int .i64 b0, .int .i64 c] w F s5 wc)
    case first =>
      go_wp2_with fail
      go_loopw [5, 6, 7] (fun s5 s6 s7 wl => ∃ (j : Nat) (l : List Int) (a : Option Addr) (cap : Nat) (t : Int), j ≤ n ∧ l.length = j ∧ s5 = .slice a j cap ∧ s6 = .int .i64 t ∧ s7 = .int .i64 j ∧ SteadyL l y ∧ I64 l ∧ (0 < j → t = l.getD (j - 1) 0 + y) ∧ -9223372036854775808 ≤ t ∧ t ≤ 9223372036854775807 ∧
        Holds wl (own 2 1 (.slice a j cap) j (iv l) :: pts w.heap.size (.cells #[.int .i64 f, .int .i64 b0, .int .i64 c] 40 (0, 0)) :: F) ∧ Str w wl) (fun _ _ s7 _ => (5000 - intOf s7).toNat)
      case atStart => exact ⟨0, [], none, 0, f, by omega, rfl, rfl, rfl, rfl, fun i hi => (by simp at hi), fun t ht => (by cases ht), fun h => (by omega), hf1, hf2, Holds.own_nil HB, (Str.refl w).alloc _⟩
      case round =>
        clear HB
        obtain ⟨j, l, a, cap, t, hjn, hlen, rfl, rfl, rfl, hst, hI, htl, ht1, ht2, Hr, Sr⟩ := hrel
        replace hlen := Lib.hid hlen
        replace hst := Lib.hid hst
        replace hI := Lib.hid hI
        replace htl := Lib.hid htl
        by_cases hj' : j < n
        · have hst' : SteadyL (l ++ [t]) y := hst.out.snoc (by rw [hlen.out]; exact htl.out)
          have hI' : I64 (l ++ [t]) := I64.snoc hI.out ht1 ht2
          replace hst' := Lib.hid hst'
          replace hI' := Lib.hid hI'
          have htl' : t + y = (l ++ [t]).getD (j + 1 - 1) 0 + y := by
            rw [Nat.add_sub_cancel, ← hlen.out, getD_app_eq]
          replace htl' := Lib.hid htl'
          by_cases hend : 9223372036854775807 - (y : Int) < t
          · go_wp2_with (at_builtin; refine wpList_append_sl rfl _ _ _ rfl i1 (.int .i64 0) Try.underlying27 hj hy0 hy1' hy2' rfl (by decide) rfl (x := .slice (some ⟨wr.heap.size, 0, none⟩) 1 1) rfl (Hr.alloc' _) (m := 1) (news := [.int .i64 t]) (slice_new wr _ _ _ 1 1 rfl (by decide)) (by simp [Value.oneCell']) (by omega) (by unfold maxLen; omega) ?_; intro v8 w8 H8 S8; obtain ⟨a8, k8, rfl⟩ := own_shape H8)
            go_meet
            case rel =>
              have hl1 : (l ++ [t]).length = j + 1 := by rw [List.length_append, List.length_singleton, hlen.out]
              exact ⟨l ++ [t], a8, k8, by omega, by rw [hl1], hst'.out, hI'.out, by rw [hl1, iv_append]; exact H8, (Sr.alloc _).trans S8⟩
          · go_wp2_with (at_builtin; refine wpList_append_sl rfl _ _ _ rfl i1 (.int .i64 0) Try.underlying27 hj hy0 hy1' hy2' rfl (by decide) rfl (x := .slice (some ⟨wr.heap.size, 0, none⟩) 1 1) rfl (Hr.alloc' _) (m := 1) (news := [.int .i64 t]) (slice_new wr _ _ _ 1 1 rfl (by decide)) (by simp [Value.oneCell']) (by omega) (by unfold maxLen; omega) ?_; intro v8 w8 H8 S8; obtain ⟨a8, k8, rfl⟩ := own_shape H8)
            go_roundw
            case rel =>
              have hl1 : (l ++ [t]).length = j + 1 := by rw [List.length_append, List.length_singleton, hlen.out]
              exact ⟨j + 1, l ++ [t], a8, k8, t + y, by omega, hl1, rfl, rfl, by congr 1, hst'.out, hI'.out, fun _ => htl'.out, by omega, by omega, by rw [iv_append]; exact H8, (Sr.alloc _).trans S8⟩
            case measure => (simp [intOf] <;> omega)
        · go_wp2_with fail
          go_meet
          case rel => exact ⟨l, a, cap, by have := hlen.out; omega, by rw [hlen.out], hst.out, hI.out, by rw [hlen.out]; exact Hr, Sr⟩
    case rest =>
      clear HB
      obtain ⟨l, a, cap, hl4, rfl, hst, hI, Hr, Sr⟩ := hcut
      have hr := hst.rising hy1
      have hlenW := tTo_steady hy1 (by omega) hst l.length (Nat.le_refl _)
      have hP := tPack_ok _ l wc _ Hr sees_own (by omega) hI hr
      obtain ⟨Wn, hWn⟩ : ∃ Wn, Wn = (tTo l l.length).length := ⟨_, rfl⟩
      obtain ⟨Bs, hBs⟩ : ∃ Bs, Bs = pack (tTo l l.length) := ⟨_, rfl⟩
      have hBl : Bs.length = (Wn + 7) / 8 := by rw [hBs, length_pack, hWn]
      have hWle : Wn ≤ 68 * l.length := by rw [hWn]; exact tTo_le _ _
      rw [← hBs] at hP
      rw [← hWn] at hlenW
      replace hst := Lib.hid hst
      replace hI := Lib.hid hI
      replace hr := Lib.hid hr
      replace hlenW := Lib.hid hlenW
      replace hWn := Lib.hid hWn
      replace hBs := Lib.hid hBs
      replace hBl := Lib.hid hBl
      go_wp2_with fail
      refine hP.mono ?_
      rintro e w1 ⟨v1, rfl, H1, S1⟩
      obtain ⟨a1, c1, rfl⟩ := own_shape H1
      go_upto_if 55 with (first | (go_at_call 10; refine (num6_c _ _).mono ?_; rintro e w5 ⟨rfl, hw5⟩; obtain rfl := hw5.symm) | (go_at_call 13; refine (works6_c _ _ H1).mono ?_; rintro e w2 ⟨rfl, H2, S2⟩) | fail)
      go_cut [10] (fun s10 wc => ∃ W1 : Nat, s10 = .int .i64 (W1 : Nat) ∧ (l.length = 0 → W1 = 0) ∧ (0 < l.length → W1 = 64) ∧ wc = w2)
      case first =>
        by_cases h0 : 0 < l.length
        · go_wp2_with fail
          go_meet
          case rel => exact ⟨64, rfl, fun h => by omega, fun _ => rfl, rfl⟩
        · have h0' : ¬ (0 : Int) < l.length := by omega
          have h0'' : l.length = 0 := by omega
          replace h0 := Lib.hid h0
          replace h0'' := Lib.hid h0''
          go_wp2_with fail
          go_meet
          case rel => exact ⟨0, rfl, fun _ => rfl, fun h => by have := h0''.out; omega, rfl⟩
      case rest =>
      obtain ⟨W1, rfl, hW1a, hW1b, hwc2⟩ := hcut
      obtain rfl := hwc2.symm
      have hW1 : (l.length = 0 → W1 = 0) ∧ (0 < l.length → W1 = 64) := ⟨hW1a, hW1b⟩
      have hW1c : W1 ≤ 64 := by
        rcases Nat.eq_zero_or_pos l.length with h | h
        · rw [hW1a h]; omega
        · rw [hW1b h]; omega
      clear hW1a hW1b
      replace hW1 := Lib.hid hW1
      go_upto_if 58 with fail
      go_cut [10] (fun s10 wc => s10 = .int .i64 (Wn : Nat) ∧ wc = w2)
      case first =>
        by_cases h1 : 1 < l.length
        · have hy3 : (y : Int) ≤ 9223372036854775807 := by omega
          by_cases u1 : 2 * (y : Int) ≤ 128
          · go_wp2_with fail
            go_meet
            case rel => exact ⟨by congr 1; have := hlenW.out; rw [if_neg (by omega), if_neg (by omega), tbits_len, if_neg (by omega), if_pos (by omega)] at this; have := hW1.out; omega, rfl⟩
          by_cases u2 : 2 * (y : Int) ≤ 4224
          · go_wp2_with fail
            go_meet
            case rel => exact ⟨by congr 1; have := hlenW.out; rw [if_neg (by omega), if_neg (by omega), tbits_len, if_neg (by omega), if_neg (by omega), if_pos (by omega)] at this; have := hW1.out; omega, rfl⟩
          by_cases u3 : 2 * (y : Int) ≤ 1052800
          · go_wp2_with fail
            go_meet
            case rel => exact ⟨by congr 1; have := hlenW.out; rw [if_neg (by omega), if_neg (by omega), tbits_len, if_neg (by omega), if_neg (by omega), if_neg (by omega), if_pos (by omega)] at this; have := hW1.out; omega, rfl⟩
          · go_wp2_with fail
            go_meet
            case rel => exact ⟨by congr 1; have := hlenW.out; rw [if_neg (by omega), if_neg (by omega), tbits_len, if_neg (by omega), if_neg (by omega), if_neg (by omega), if_neg (by omega)] at this; have := hW1.out; omega, rfl⟩
        · have h1' : ¬ (1 : Int) < l.length := by omega
          replace h1 := Lib.hid h1
          go_wp2_with fail
          go_meet
          case rel =>
            refine ⟨?_, rfl⟩
            congr 1
            have h1 := h1.out
            have h2 := hlenW.out
            have h3 := hW1.out
            rcases Nat.eq_zero_or_pos l.length with h | h
            · rw [if_pos h] at h2; have := h3.1 h; omega
            · rw [if_neg (by omega), if_pos (by omega)] at h2; have := h3.2 h; omega
      case rest =>
      obtain ⟨rfl, hwc3⟩ := hcut
      obtain rfl := hwc3.symm
      have hdec : ((Bs.length : Int) == ((Wn : Int) + 7) / 8) = true := by
        have := hBl.out
        simp
        omega
      go_wp2_with fail
      go_loopw [12, 13] (fun s12 s13 wl => ∃ (j : Nat) (m : List Int) (a' : Option Addr) (cap' : Nat), j ≤ l.length ∧ m.length = j ∧ s12 = .slice a' j cap' ∧ s13 = .int .i64 j ∧ (∀ i, i < j → m.getD i 0 = l.getD i 0 + (-1000)) ∧ I64 m ∧
        Holds wl (own 2 1 (.slice a' j cap') j (iv m) :: own 5 1 (.slice a1 Bs.length c1) Bs.length (bv Bs) :: own 2 1 (.slice a l.length cap) l.length (iv l) :: pts w.heap.size (.cells #[.int .i64 f, .int .i64 b0, .int .i64 c] 40 (0, 0)) :: F) ∧ Str w wl) (fun _ s13 _ => (5000 - intOf s13).toNat)
      case atStart => exact ⟨0, [], none, 0, by omega, rfl, rfl, rfl, fun i hi => (by omega), fun t ht => (by cases ht), Holds.own_nil H2, (Sr.trans S1).trans S2⟩
      case round =>
        obtain ⟨j, m, a', cap', hjl, hmlen, rfl, rfl, hml, hmI, Hq, Sq⟩ := hrel
        replace hmlen := Lib.hid hmlen
        replace hml := Lib.hid hml
        replace hmI := Lib.hid hmI
        by_cases hj' : j < l.length
        · obtain ⟨g, cap9, rest9, hv9, hcap9, hcm9, hl9, _, H9⟩ := Hq.pull2.own_block (by omega)
          simp only [Value.slice.injEq] at hv9
          obtain ⟨rfl, _, rfl⟩ := hv9
          have hlc := Hq.pull2.own_is.at (by omega)
          obtain ⟨g', off', cp', hv', hc1', hc2', hc'⟩ := hlc
          simp only [Value.slice.injEq, Option.some.injEq, Addr.mk.injEq] at hv'
          obtain ⟨⟨rfl, rfl, _⟩, _, rfl⟩ := hv'
          have d1 := hc' j _ (iv_at hj')
          rw [Nat.zero_add] at d1
          obtain ⟨t, ht⟩ : ∃ t, t = l.getD j 0 := ⟨_, rfl⟩
          have htr := I64.getD hI.out j
          rw [← ht] at d1 htr
          obtain ⟨ht1, ht2⟩ := htr
          unfold maxLen at hc2'
          clear hc' H9 hl9
          replace ht := Lib.hid ht
          by_cases hlow : t < -9223372036854774808
          · go_wp2_with fail
            refine bodyPost_ret (results_tmp rfl _ _ _) rfl ⟨rfl, Hq.tail.tail.tail.tail, Sq⟩
          · have hm' : ∀ i, i < j + 1 → (m ++ [t - 1000]).getD i 0 = l.getD i 0 + (-1000) := by
              intro i hi
              have h1 := hmlen.out
              by_cases hij : i = j
              · rw [hij, ← ht.out, ← h1, getD_app_eq]; omega
              · rw [getD_app_lt (by omega)]; exact hml.out i (by omega)
            have hI' : I64 (m ++ [t - 1000]) := I64.snoc hmI.out (by omega) (by omega)
            replace hm' := Lib.hid hm'
            replace hI' := Lib.hid hI'
            go_wp2_with (at_builtin; refine wpList_append_sl rfl _ _ _ rfl i1 (.int .i64 0) Try.underlying27 hj hy0 hy1' hy2' rfl (by decide) rfl (x := .slice (some ⟨wr.heap.size, 0, none⟩) 1 1) rfl (Hq.alloc' _) (m := 1) (news := [.int .i64 (t - 1000)]) (slice_new wr _ _ _ 1 1 rfl (by decide)) (by simp [Value.oneCell']) (by omega) (by unfold maxLen; omega) ?_; intro v8 w8 H8 S8; obtain ⟨a8, k8, rfl⟩ := own_shape H8)
            go_roundw
            case rel => exact ⟨j + 1, m ++ [t - 1000], a8, k8, by omega, by rw [List.length_append, List.length_singleton, hmlen.out], rfl, by congr 1, hm'.out, hI'.out, by rw [iv_append]; exact H8, (Sq.alloc _).trans S8⟩
            case measure => (simp [intOf] <;> omega)
        · obtain rfl : j = l.length := by omega
          have hlenEq : (pack (tTo m m.length)).length = Bs.length := by
            rw [hBs.out, hmlen.out]
            rcases Nat.eq_zero_or_pos l.length with h | h
            · rw [h]; rfl
            · exact (times_moved h hml.out).1.symm
          have hP2 := tPack_ok _ m wr _ Hq (by rw [hmlen.out]; exact sees_own) (by rw [hmlen.out]; omega) hmI.out (hr.out.moved hmlen.out hml.out)
          obtain ⟨Cs, hCs⟩ : ∃ Cs, Cs = pack (tTo m m.length) := ⟨_, rfl⟩
          rw [← hCs] at hP2 hlenEq
          replace hCs := Lib.hid hCs
          have hd2 : ((Cs.length : Int) == (Bs.length : Int)) = true := by simp; omega
          replace hlenEq := Lib.hid hlenEq
          go_wp2_with fail
          refine hP2.mono ?_
          rintro e w4 ⟨v4, rfl, H4, S4⟩
          obtain ⟨a4, c4, rfl⟩ := own_shape H4
          go_wp2_with (go_at_call 10; refine (num6_c _ _).mono ?_; rintro e w5 ⟨rfl, hw5⟩; obtain rfl := hw5.symm)
          go_ret
          exact ⟨rfl, H4.tail.tail.tail.tail.tail, Sq.trans S4⟩
end Go.Proofs.Ytakaolcajbhkiaa
