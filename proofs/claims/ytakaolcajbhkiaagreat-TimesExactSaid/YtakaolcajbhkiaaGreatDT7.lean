/- The document's times: Unpack. -/
import Derived.Test.YtakaolcajbhkiaaGreatDT4
import Derived.Test.YtakaolcajbhkiaaGreatTm5
namespace Go.Proofs.YtakaolcajbhkiaaGreat
open Go.RowKit Go.SL Go.Fm
set_option linter.unusedVariables false
set_option linter.unusedSimpArgs false
theorem undo2_num (d u : Nat) : IntKind.u64.wrap ((d : Int) + IntKind.u64.wrap (unzig u)) = ((Go.Fm.u64 ((d : Int) + unzig u) : Nat) : Int) := by
  rw [u64_wrap, u64_wrap]
  unfold Go.Fm.u64
  omega
set_option maxRecDepth 100000 in
theorem dUnpack_many (v : Value) (n : Int) (w : World) (F : List HProp) (H : Holds w F) (hn : n < 0 ∨ 4096 < n) :
    Calls Tryz.prog 24 #[v, .int .i64 n] w (Ret w (.tuple #[.slice none 0 0, .int .i64 60]) F) := by
  rcases hn with hn | hn
  · go_enter Tryz.func24, Tryz.ntmps24
    go_wp2
    go_ret2
    exact ⟨rfl, H, Str.refl w⟩
  · have hn0 : ¬ n < 0 := by omega
    go_enter Tryz.func24, Tryz.ntmps24
    go_wp2
    go_ret2
    exact ⟨rfl, H, Str.refl w⟩
set_option maxRecDepth 100000 in
set_option maxHeartbeats 4000000 in
theorem dUnpack_c (v : Value) (B : List Nat) (n : Nat) (w : World) (F : List HProp) (H : Holds w F) (hv : Sees F 1 v B.length (bv B)) (hB : ∀ x ∈ B, x < 256) (hl : B.length ≤ 1000000000000) (hn : n ≤ 4096) :
    Calls Tryz.prog 24 #[v, .int .i64 n] w (UnpackPost w F (tGet ⟨unpack B, 0⟩ n)) := by
  obtain ⟨i1, hj, hy0, hy1, hy2⟩ := info_parts info_i64
  go_enter Tryz.func24, Tryz.ntmps24
  go_wp2_with fail
  refine (rrFrom_c v B _ _ H hv hB hl).mono ?_
  rintro e w1 ⟨rb, rfl, H1, S1⟩
  have HM : Holds w1 (own 2 1 (.slice none 0 0) 0 (iv []) :: qS rb ⟨unpack B, 0⟩ :: F) := H1.own_nil
  go_wp2_with fail
  go_loopw [7, 8, 9] (fun s7 s8 s9 wl => ∃ (j : Nat) (q : Rs) (d : Nat) (l : List Int) (a : Option Addr) (c : Nat), j ≤ n ∧ s7 = .slice a j c ∧ s8 = .int .u64 (d : Nat) ∧ s9 = .int .i64 j ∧ tUp ⟨unpack B, 0⟩ j = some (q, d, l) ∧
    Holds wl (own 2 1 (.slice a j c) j (iv l) :: qS rb q :: F) ∧ Str w wl) (fun _ _ s9 _ => (5000 - intOf s9).toNat)
  case atStart => exact ⟨0, _, 0, [], _, _, by omega, rfl, rfl, rfl, rfl, HM, S1⟩
  case round =>
    clear HM H1
    obtain ⟨j, q, d, l, a, c, hj4, rfl, rfl, rfl, hup, Hr, Sr⟩ := hrel
    have hlen : l.length = j := tUp_len _ _ _ hup
    by_cases hjn : j < n
    · by_cases h0 : j = 0
      · have hj0 : ((j : Int) == 0) = true := by simp [h0]
        have hnil : l = [] := List.eq_nil_of_length_eq_zero (by omega)
        have hd0 : d = 0 := by
          rw [h0] at hup
          simp only [tUp, Option.some.injEq, Prod.mk.injEq] at hup
          exact hup.2.1.symm
        have hnext : tUp ⟨unpack B, 0⟩ (j + 1) = some ((q.bits 64).2, d, l ++ [wrap64 (q.bits 64).1]) := by
          show (tUp ⟨unpack B, 0⟩ j).bind tstep = _
          rw [hup, hnil, hd0]
          rfl
        replace hnext := Lib.hid hnext
        replace hup := Lib.hid hup
        replace h0 := Lib.hid h0
        replace hnil := Lib.hid hnil
        replace hd0 := Lib.hid hd0
        replace hlen := Lib.hid hlen
        go_wp2_with fail
        refine (rrBits_c rb 64 q _ _ Hr.swap).mono ?_
        rintro e w2 ⟨rfl, H2, S2⟩
        go_wp2_with (at_builtin; refine wpList_append_sl rfl _ _ _ rfl i1 (.int .i64 0) Tryz.underlying54 hj hy0 hy1 hy2 rfl (by decide) rfl (x := .slice (some ⟨w2.heap.size, 0, none⟩) 1 1) rfl (H2.swap.alloc' _) (m := 1) (news := [.int .i64 (wrap64 ((q.bits 64).1 : Nat))]) (slice_new w2 _ _ _ 1 1 rfl (by decide)) (by simp [Value.oneCell']) (by omega) (by unfold maxLen; omega) ?_; intro v8 w8 H8 S8; obtain ⟨a8, k8, rfl⟩ := own_shape H8)
        go_roundw
        case rel => exact ⟨j + 1, _, d, _, a8, k8, by omega, rfl, rfl, by congr 1, hnext.out, by rw [iv_append]; exact H8, ((Sr.trans S2).alloc _).trans S8⟩
        case measure => (simp [intOf] <;> omega)
      · have hj0 : ((j : Int) == 0) = false := by simp; omega
        obtain ⟨g, cap, rest, hv9, hcap9, hcm9, hl9, hl9', H9⟩ := Hr.own_block (by omega)
        simp only [Value.slice.injEq] at hv9
        obtain ⟨rfl, _, rfl⟩ := hv9
        obtain ⟨p, hp⟩ : ∃ p, p = l.getD (j - 1) 0 := ⟨_, rfl⟩
        have hlast : l.getLast? = some p := by
          rw [List.getLast?_eq_getElem?, hlen, hp]
          simp [List.getD, List.getElem?_eq_getElem (show j - 1 < l.length by omega)]
        have hcell : ∀ (W : World) (G : List HProp), Holds W (own 2 1 (.slice (some ⟨g, 0, none⟩) j c) j (iv l) :: G) → W.cell? ⟨g, j - 1, none⟩ = some (.int .i64 p) := by
          intro W G hW
          have := hW.own_is.2
          rcases this with ⟨h, _⟩ | ⟨ad, cp, h, _, _, h3⟩
          · cases h
          · simp only [Value.slice.injEq, Option.some.injEq] at h
            obtain ⟨rfl, _, _⟩ := h
            have e := h3 (j - 1) _ (iv_at (by omega))
            rw [add_plain', Nat.zero_add, ← hp] at e
            exact e
        have hnext : tUp ⟨unpack B, 0⟩ (j + 1) = if q.tk.1.2 = true ∧ p < wrap64 (p + Go.Fm.u64 ((d : Int) + unzig q.tk.1.1)) then some (q.tk.2, Go.Fm.u64 ((d : Int) + unzig q.tk.1.1), l ++ [wrap64 (p + Go.Fm.u64 ((d : Int) + unzig q.tk.1.1))]) else none := by
          show (tUp ⟨unpack B, 0⟩ j).bind tstep = _
          rw [hup]
          show tstep _ = _
          unfold tstep
          simp only [hlast]
        have hT := dTake_c rb q _ _ Hr.swap
        have hul := tk_lt q
        obtain ⟨kb, hkb⟩ : ∃ kb, kb = (q.tk.1.2 && (((q.tk.2.bad : Nat) : Int) == 0)) := ⟨_, rfl⟩
        rw [← hkb] at hT
        cases hkk : kb with
        | false =>
          have hn2 : tGet ⟨unpack B, 0⟩ n = none := by
            by_cases hc : q.tk.1.2 = true ∧ p < wrap64 (p + Go.Fm.u64 ((d : Int) + unzig q.tk.1.1))
            · have hbad : q.tk.2.bad ≠ 0 := by
                intro h
                rw [hkk, hc.1, h] at hkb
                cases hkb
              exact tGet_bad _ (j + 1) (by rw [hnext, if_pos hc]) hbad (by omega)
            · unfold tGet
              rw [tUp_none _ (j + 1) (by rw [hnext, if_neg hc]) n (by omega)]
              rfl
          rw [hkk] at hT
          replace hn2 := Lib.hid hn2
          replace hnext := Lib.hid hnext
          replace hkb := Lib.hid hkb
          replace hkk := Lib.hid hkk
          replace hup := Lib.hid hup
          replace hlast := Lib.hid hlast
          replace hcell := Lib.hid hcell
          replace hp := Lib.hid hp
          replace hlen := Lib.hid hlen
          replace hul := Lib.hid hul
          clear hl9 hl9' H9
          go_wp2_with (go_at_call 45; refine hT.mono ?_; rintro e w2 ⟨rfl, H2, S2⟩)
          go_ret2
          rw [hn2.out]
          exact ⟨rfl, H2.tail.tail, Sr.trans S2⟩
        | true =>
          obtain ⟨hk1, hk2⟩ : q.tk.1.2 = true ∧ q.tk.2.bad = 0 := by
            rw [hkk] at hkb
            have := hkb.symm
            simp only [Bool.and_eq_true, beq_iff_eq] at this
            exact ⟨this.1, by omega⟩
          rw [hkk] at hT
          obtain ⟨u, hu⟩ : ∃ u, u = q.tk.1.1 := ⟨_, rfl⟩
          rw [← hu] at hul hT hnext
          obtain ⟨d', hd'⟩ : ∃ d', d' = Go.Fm.u64 ((d : Int) + unzig u) := ⟨_, rfl⟩
          rw [← hd'] at hnext
          obtain ⟨t, ht⟩ : ∃ t, t = wrap64 (p + (d' : Nat)) := ⟨_, rfl⟩
          rw [← ht, hk1] at hnext
          have hw1 := undo2_num d u
          rw [← hd'] at hw1
          have hw2 := next_num p d'
          rw [← ht] at hw2
          have htr : -9223372036854775808 ≤ t ∧ t ≤ 9223372036854775807 := by rw [ht]; exact wrap64_range _
          have hli : (u : Int) < 18446744073709551616 := by omega
          have ix : ((j : Int) - 1).toNat = j - 1 := by omega
          have ix0 : (0 : Int) ≤ (j : Int) - 1 := by omega
          have ix1 : (j : Int) - 1 < (j : Int) := by omega
          obtain ⟨htr1, htr2⟩ := htr
          replace hnext := Lib.hid hnext
          replace hkb := Lib.hid hkb
          replace hkk := Lib.hid hkk
          replace hk1 := Lib.hid hk1
          replace hk2 := Lib.hid hk2
          replace hup := Lib.hid hup
          replace hlast := Lib.hid hlast
          replace hcell := Lib.hid hcell
          replace hp := Lib.hid hp
          replace ht := Lib.hid ht
          replace hd' := Lib.hid hd'
          replace hlen := Lib.hid hlen
          replace hw1 := Lib.hid hw1
          replace hw2 := Lib.hid hw2
          replace hul := Lib.hid hul
          replace hu := Lib.hid hu
          clear hl9 hl9' H9
          go_upto_region 14 with (go_at_call 45; refine hT.mono ?_; rintro e w2 ⟨rfl, H2, S2⟩)
          have hc2 := hcell.out _ _ H2.swap
          go_upto_region 15 with (go_at_call 46; refine (Back_c u hul.out _).mono ?_; rintro e w' ⟨rfl, hw'⟩; obtain rfl := hw'.symm)
          rw [hw1.out]
          go_upto_region 16 with fail
          rw [hw2.out]
          clear hli htr1 htr2
          by_cases hc : p < t
          · have hn2 : tUp ⟨unpack B, 0⟩ (j + 1) = some (q.tk.2, d', l ++ [t]) := by rw [hnext.out, if_pos ⟨trivial, hc⟩]
            replace hn2 := Lib.hid hn2
            go_wp2_with (at_builtin; refine wpList_append_sl rfl _ _ _ rfl i1 (.int .i64 0) Tryz.underlying54 hj hy0 hy1 hy2 rfl (by decide) rfl (x := .slice (some ⟨w2.heap.size, 0, none⟩) 1 1) rfl (H2.swap.alloc' _) (m := 1) (news := [.int .i64 t]) (slice_new w2 _ _ _ 1 1 rfl (by decide)) (by simp [Value.oneCell']) (by omega) (by unfold maxLen; omega) ?_; intro v8 w8 H8 S8; obtain ⟨a8, k8, rfl⟩ := own_shape H8)
            go_roundw
            case rel => exact ⟨j + 1, _, d', _, a8, k8, by omega, rfl, rfl, by congr 1, hn2.out, by rw [iv_append]; exact H8, ((Sr.trans S2).alloc _).trans S8⟩
            case measure => (simp [intOf] <;> omega)
          · have hn2 : tGet ⟨unpack B, 0⟩ n = none := by
              unfold tGet
              rw [tUp_none _ (j + 1) (by rw [hnext.out, if_neg (fun h => hc h.2)]) n (by omega)]
              rfl
            replace hn2 := Lib.hid hn2
            go_wp2_with fail
            go_ret2
            rw [hn2.out]
            exact ⟨rfl, H2.tail.tail, Sr.trans S2⟩
    · obtain rfl : j = n := by omega
      have hE := rrEnd_c rb q _ _ Hr.swap
      by_cases he : q.end_ = 0
      · have hg : tGet ⟨unpack B, 0⟩ j = some l := by
          unfold tGet
          rw [hup]
          show (if _ then _ else _) = _
          rw [if_pos he]
        rw [he] at hE
        replace he := Lib.hid he
        replace hg := Lib.hid hg
        replace hup := Lib.hid hup
        go_wp2_with (go_at_call 47; refine hE.mono ?_; rintro e w2 ⟨rfl, hw2⟩; obtain rfl := hw2.symm)
        go_ret2
        rw [hg.out]
        exact ⟨_, rfl, by rw [hlen]; exact Hr.swap.tail, Sr⟩
      · have hg : tGet ⟨unpack B, 0⟩ j = none := by
          unfold tGet
          rw [hup]
          show (if _ then _ else _) = _
          rw [if_neg he]
        have hne : ((q.end_ : Int) != 0) = true := by simp; omega
        replace he := Lib.hid he
        replace hg := Lib.hid hg
        replace hup := Lib.hid hup
        go_wp2_with (go_at_call 47; refine hE.mono ?_; rintro e w2 ⟨rfl, hw2⟩; obtain rfl := hw2.symm)
        go_ret2
        rw [hg.out]
        exact ⟨rfl, Hr.tail.tail, Sr⟩
end Go.Proofs.YtakaolcajbhkiaaGreat
