/- The law TimesBack, walked. -/
import Derived.Test.YtakaolcajbhkiaaLTm2
import Derived.Test.YtakaolcajbhkiaaLRows
import Derived.Test.YtakaolcajbhkiaaTm3
import Derived.WalkSpells
namespace Go.SL
open Go.RowKit Go.Fm
/-- The beginning of a slice that is seen. -/
theorem sees_take {F : List HProp} {a : Addr} {n c m : Nat} {xs : List Value} (h : Sees F 1 (.slice (some a) n c) n xs) (hm : m ≤ n) : Sees F 1 (.slice (some a) m c) m (xs.take m) := by
  intro w hw
  obtain ⟨hl, h⟩ := h w hw
  rcases h with ⟨h0, _⟩ | ⟨ad, cp, h0, h1, h2, h3⟩
  · cases h0
  · simp only [Value.slice.injEq, Option.some.injEq] at h0
    obtain ⟨rfl, _, rfl⟩ := h0
    refine ⟨by rw [List.length_take]; omega, .inr ⟨a, c, rfl, by omega, h2, fun j x hj => h3 j x ?_⟩⟩
    rw [List.getElem?_take] at hj
    split at hj
    · exact hj
    · cases hj
theorem is_take {w : World} {a : Addr} {n c m : Nat} {xs : List Value} (h : SliceIs w 1 (.slice (some a) n c) n xs) (hm : m ≤ n) : SliceIs w 1 (.slice (some a) m c) m (xs.take m) := by
  obtain ⟨hl, h⟩ := h
  rcases h with ⟨h0, _⟩ | ⟨ad, cp, h0, h1, h2, h3⟩
  · cases h0
  · simp only [Value.slice.injEq, Option.some.injEq] at h0
    obtain ⟨rfl, _, rfl⟩ := h0
    refine ⟨by rw [List.length_take]; omega, .inr ⟨a, c, rfl, by omega, h2, fun j x hj => h3 j x ?_⟩⟩
    rw [List.getElem?_take] at hj
    split at hj
    · exact hj
    · cases hj
theorem iv_take (l : List Int) (m : Nat) : iv (l.take m) = (iv l).take m := by simp [iv, List.map_take]
theorem bv_take (l : List Nat) (m : Nat) : bv (l.take m) = (bv l).take m := by simp [bv, List.map_take]
end Go.SL
namespace Go.Proofs.Ytakaolcajbhkiaa
open Go.RowKit Go.SL Go.Fm
set_option linter.unusedVariables false
set_option linter.unusedSimpArgs false

set_option maxRecDepth 100000 in
set_option maxHeartbeats 8000000 in
theorem TimesBack_c (v0 v1 v2 : Value) (L : List (List Int)) (w : World) (F : List HProp) (H : Holds w F) (hL : RowsSeen F iv v0 L) (hI : ∀ l ∈ L, I64 l ∧ l.length ≤ 20000000000000) :
    Calls Try.prog 3 #[.agg #[v0, v1, v2]] w (Ret w (.bool true) F) := by
  obtain ⟨a0, k0, rfl⟩ := hL.shape H
  have HB := H.alloc (.cells #[.slice a0 L.length k0, v1, v2] 26)
  go_enter Try.func3, Try.ntmps3
  go_wp2
  go_loopw [3, 4] (fun s3 s4 wl => ∃ (i al : Nat), i ≤ 100 ∧ al ≤ 16384 ∧ s3 = .int .i64 al ∧ s4 = .int .i64 i ∧ Holds wl (pts w.heap.size (.cells #[.slice a0 L.length k0, v1, v2] 26 (0, 0)) :: F) ∧ Str w wl) (fun _ s4 _ => (200 - intOf s4).toNat)
  case atStart => exact ⟨0, 0, by omega, by omega, rfl, rfl, HB, (Str.refl w).alloc _⟩
  case round =>
    clear HB
    obtain ⟨i, al, hi, hal, rfl, rfl, Hr, Sr⟩ := hrel
    have cb := Hr.cell 0
    simp at cb
    by_cases hin : i < L.length ∧ i < 100
    · obtain ⟨hiL, hi100⟩ := hin
      obtain ⟨g, off, cap, u, hv, hcap, hcm, hcu, hsu⟩ := hL.row Hr.tail hiL
      simp only [Value.slice.injEq] at hv
      obtain ⟨rfl, _, rfl⟩ := hv
      obtain ⟨l, hl⟩ : ∃ l, l = L[i] := ⟨_, rfl⟩
      obtain ⟨hil, hlm⟩ := hI _ (List.getElem_mem hiL)
      rw [← hl] at hsu hil hlm
      rw [length_iv] at hsu
      replace hl := Lib.hid hl
      unfold maxLen at hcm
      obtain ⟨au, cu, rfl⟩ := slice_shape' (hsu _ Hr.tail)
      by_cases hall : 16384 < al + l.length
      · have hall' : (16384 : Int) < (al : Int) + l.length := by omega
        go_wp2_with fail
        refine (works6_c _ _ Hr).mono ?_
        rintro e w1 ⟨rfl, H1, S1⟩
        go_wp2_with fail
        refine bodyPost_ret (results_tmp rfl _ _ _) rfl ⟨rfl, H1.tail, Sr.trans S1⟩
      · have hall' : ¬ (16384 : Int) < (al : Int) + l.length := by omega
        by_cases hlen : 4096 < l.length
        · go_wp2_with fail
          refine (works6_c _ _ Hr).mono ?_
          rintro e w1 ⟨rfl, H1, S1⟩
          go_wp2_with fail
          refine bodyPost_ret (results_tmp rfl _ _ _) rfl ⟨rfl, H1.tail, Sr.trans S1⟩
        · by_cases hr : Rising l
          · go_wp2_with fail
            refine (tPack_ok _ l _ _ Hr hsu.cons (by omega) hil hr).mono ?_
            rintro e w1 ⟨v3, rfl, H1, S1⟩
            go_wp2_with fail
            refine (rising6_c _ l _ (hsu _ H1.tail.tail) (by omega)).mono ?_
            rintro e w2 ⟨b2, rfl, hb2, n2, rfl⟩
            obtain rfl : b2 = true := hb2.2 hr
            clear hb2
            replace H1 := H1.drewN n2
            replace S1 := S1.drewN n2
            generalize w1.drewN n2 = w2 at H1 S1 ⊢
            obtain ⟨Bs, hBs⟩ : ∃ Bs, Bs = pack (tTo l l.length) := ⟨_, rfl⟩
            have hG := tGet_back l hil hr
            have hBl := times_len l l.length
            have hB256 := pack_lt (tTo l l.length)
            rw [← hBs] at H1 hG hBl hB256
            have hU := tUnpack_c v3 Bs l.length w2 _ H1 H1.own_is hB256 (by omega) (by omega)
            rw [hG] at hU
            replace hG := Lib.hid hG
            replace hBs := Lib.hid hBs
            obtain ⟨a3, c3, rfl⟩ := own_shape H1
            go_wp2_with fail
            refine hU.mono ?_
            rintro e w3 ⟨v4, rfl, H3, S3⟩
            obtain ⟨a4, c4, rfl⟩ := own_shape H3
            have hsame := same6_c _ _ l l w3 H3.own_is (hsu _ H3.tail.tail.tail) (by omega)
            rw [decide_eq_true (rfl : l = l)] at hsame
            replace hB256 := Lib.hid hB256
            replace hr := Lib.hid hr
            replace hil := Lib.hid hil
            by_cases hn0 : 0 < l.length
            · obtain ⟨gl, ofl, cl, hvl, hcl, hcml, _⟩ := (hsu _ H3.tail.tail.tail).at hn0
              simp only [Value.slice.injEq] at hvl
              obtain ⟨rfl, _, rfl⟩ := hvl
              obtain ⟨k, hk⟩ : ∃ k, k = l.length - 1 := ⟨_, rfl⟩
              have ix : ((l.length : Int) - 1).toNat = k := by omega
              have ix0 : (0 : Int) ≤ (l.length : Int) - 1 := by omega
              have ix1 : (l.length : Int) - 1 ≤ cu := by omega
              have ixk : (l.length : Int) - 1 = (k : Int) := by omega
              have hkn : k ≤ 4096 := by omega
              unfold maxLen at hcml
              replace hk := Lib.hid hk
              replace ixk := Lib.hid ixk
              go_wp2_with (first | (go_at_call 10; refine (num6_c _ _).mono ?_; rintro e w5 ⟨rfl, hw5⟩; obtain rfl := hw5.symm) | (go_at_call 12; refine hsame.mono ?_; rintro e w4 ⟨rfl, n4, rfl⟩; replace H3 := H3.drewN n4; replace S3 := S3.drewN n4; generalize w3.drewN n4 = w4 at H3 S3 ⊢) | fail)
              have hkl : (l.take k).length = k := by have := hk.out; rw [List.length_take]; omega
              have hsk := sees_take hsu (m := k) (by have := hk.out; omega)
              rw [← iv_take] at hsk
              have hP := tPack_ok (.slice (some ⟨gl, ofl, none⟩) k cu) (l.take k) w4 _ H3 (by rw [hkl]; exact hsk.cons.cons.cons) (by omega) (hil.out.take _) (hr.out.take _)
              rw [hkl, tTo_take] at hP
              have hbeg := times_begin l k
              have hless := times_less l k (by have := hk.out; omega) hil.out hr.out
              rw [show k + 1 = l.length by have := hk.out; omega, ← hBs.out] at hbeg hless
              obtain ⟨Cs, hCs⟩ : ∃ Cs, Cs = pack (tTo l k) := ⟨_, rfl⟩
              have hC256 := pack_lt (tTo l k)
              rw [← hCs] at hP hbeg hless hC256
              obtain ⟨hCB, hCt⟩ := hbeg
              replace hkl := Lib.hid hkl
              replace hCs := Lib.hid hCs
              replace hless := Lib.hid hless
              replace hCt := Lib.hid hCt
              replace hC256 := Lib.hid hC256
              refine hP.mono ?_
              rintro e w5 ⟨v5, rfl, H5, S5⟩
              obtain ⟨a5, c5, rfl⟩ := own_shape H5
              have hU2 := tUnpack_c (.slice a3 Bs.length c3) Bs k w5 _ H5 H5.pull2.own_is hB256.out (by omega) hkn
              rw [← ixk.out] at hU2
              go_wp2_with fail
              refine hU2.mono ?_
              cases hg2 : tGet ⟨unpack Bs, 0⟩ k with
              | none =>
                rintro e w6 ⟨rfl, H6, S6⟩
                by_cases hC1 : 1 < Cs.length
                · have d1 : decide (Bs.length < Cs.length) = false := by simp; omega
                  have d2 : decide ((1 : Int) < (Cs.length : Int)) = true := by simp; omega
                  obtain ⟨g5, cap5, rest5, hv5, hcap5, hcm5, _, _, _⟩ := H6.own_block (by omega)
                  simp only [Value.slice.injEq] at hv5
                  obtain ⟨rfl, _, rfl⟩ := hv5
                  obtain ⟨g3, cap3, rest3, hv3, hcap3, hcm3, _, _, _⟩ := H6.pull2.own_block (by omega)
                  simp only [Value.slice.injEq] at hv3
                  obtain ⟨rfl, _, rfl⟩ := hv3
                  unfold maxLen at hcm5 hcm3
                  obtain ⟨T, hT⟩ : ∃ T, T = Cs.take (Cs.length - 1) := ⟨_, rfl⟩
                  have hTl : T.length = Cs.length - 1 := by rw [hT, List.length_take]; omega
                  have q5 : ∀ n, (convert 28 9 (.slice (some ⟨g5, 0, none⟩) (Cs.length - 1) c5)).run Try.prog (w6.drewN n) = .ok (.string (bstr T)) (w6.drewN n) := fun n => by
                    have h := is_take (H6.drewN n).own_is (m := Cs.length - 1) (by omega)
                    rw [← bv_take, ← hT] at h
                    have h2 := conv_str (P := Try.prog) (B := T) Try.underlying28 Try.underlying5 Try.underlying9 (by rw [hTl]; exact h)
                    exact h2
                  have q3 : ∀ n, (convert 28 9 (.slice (some ⟨g3, 0, none⟩) (Cs.length - 1) c3)).run Try.prog (w6.drewN n) = .ok (.string (bstr T)) (w6.drewN n) := fun n => by
                    have h := is_take (H6.pull2.drewN n).own_is (m := Cs.length - 1) (by omega)
                    rw [← bv_take, ← hCt.out, ← hT] at h
                    have h2 := conv_str (P := Try.prog) (B := T) Try.underlying28 Try.underlying5 Try.underlying9 (by rw [hTl]; exact h)
                    exact h2
                  have jw : IntKind.i64.wrap ((Cs.length : Int) - 1) = (Cs.length : Int) - 1 := IntWalk.i64_in _ (by omega)
                  have j0 : (0 : Int) ≤ (Cs.length : Int) - 1 := by omega
                  have j1 : (Cs.length : Int) - 1 ≤ c5 := by omega
                  have j2 : (Cs.length : Int) - 1 ≤ c3 := by omega
                  have j3 : ((Cs.length : Int) - 1).toNat = Cs.length - 1 := by omega
                  replace hT := Lib.hid hT
                  replace hTl := Lib.hid hTl
                  replace hg2 := Lib.hid hg2
                  go_upto_region 18 with fail
                  go_quiet (first | (go_at_call 10; exact num6_q _ _ _) | fail)
                  clear jw
                  go_wp2_with fail
                  go_roundw
                  case rel => exact ⟨i + 1, al + l.length, by omega, by omega, by congr 1, by congr 1, H6.tail.tail.tail.drewN _, ((((Sr.trans S1).trans S3).trans S5).trans S6).drewN _⟩
                  case measure => (simp [intOf] <;> omega)
                · have d1 : decide (Bs.length < Cs.length) = false := by simp; omega
                  have d2 : decide ((1 : Int) < (Cs.length : Int)) = false := by simp; omega
                  replace hg2 := Lib.hid hg2
                  go_upto_region 18 with fail
                  go_quiet (first | (go_at_call 10; exact num6_q _ _ _) | fail)
                  skip
                  go_wp2_with fail
                  go_roundw
                  case rel => exact ⟨i + 1, al + l.length, by omega, by omega, by congr 1, by congr 1, H6.tail.tail.tail.drewN _, ((((Sr.trans S1).trans S3).trans S5).trans S6).drewN _⟩
                  case measure => (simp [intOf] <;> omega)
              | some m =>
                rintro e w6 ⟨v6, rfl, H6, S6⟩
                by_cases hC1 : 1 < Cs.length
                · have d1 : decide (Bs.length < Cs.length) = false := by simp; omega
                  have d2 : decide ((1 : Int) < (Cs.length : Int)) = true := by simp; omega
                  obtain ⟨g5, cap5, rest5, hv5, hcap5, hcm5, _, _, _⟩ := H6.tail.own_block (by omega)
                  simp only [Value.slice.injEq] at hv5
                  obtain ⟨rfl, _, rfl⟩ := hv5
                  obtain ⟨g3, cap3, rest3, hv3, hcap3, hcm3, _, _, _⟩ := H6.tail.pull2.own_block (by omega)
                  simp only [Value.slice.injEq] at hv3
                  obtain ⟨rfl, _, rfl⟩ := hv3
                  unfold maxLen at hcm5 hcm3
                  obtain ⟨T, hT⟩ : ∃ T, T = Cs.take (Cs.length - 1) := ⟨_, rfl⟩
                  have hTl : T.length = Cs.length - 1 := by rw [hT, List.length_take]; omega
                  have q5 : ∀ n, (convert 28 9 (.slice (some ⟨g5, 0, none⟩) (Cs.length - 1) c5)).run Try.prog (w6.drewN n) = .ok (.string (bstr T)) (w6.drewN n) := fun n => by
                    have h := is_take (H6.tail.drewN n).own_is (m := Cs.length - 1) (by omega)
                    rw [← bv_take, ← hT] at h
                    have h2 := conv_str (P := Try.prog) (B := T) Try.underlying28 Try.underlying5 Try.underlying9 (by rw [hTl]; exact h)
                    exact h2
                  have q3 : ∀ n, (convert 28 9 (.slice (some ⟨g3, 0, none⟩) (Cs.length - 1) c3)).run Try.prog (w6.drewN n) = .ok (.string (bstr T)) (w6.drewN n) := fun n => by
                    have h := is_take (H6.tail.pull2.drewN n).own_is (m := Cs.length - 1) (by omega)
                    rw [← bv_take, ← hCt.out, ← hT] at h
                    have h2 := conv_str (P := Try.prog) (B := T) Try.underlying28 Try.underlying5 Try.underlying9 (by rw [hTl]; exact h)
                    exact h2
                  have jw : IntKind.i64.wrap ((Cs.length : Int) - 1) = (Cs.length : Int) - 1 := IntWalk.i64_in _ (by omega)
                  have j0 : (0 : Int) ≤ (Cs.length : Int) - 1 := by omega
                  have j1 : (Cs.length : Int) - 1 ≤ c5 := by omega
                  have j2 : (Cs.length : Int) - 1 ≤ c3 := by omega
                  have j3 : ((Cs.length : Int) - 1).toNat = Cs.length - 1 := by omega
                  replace hT := Lib.hid hT
                  replace hTl := Lib.hid hTl
                  have hCB2 := hless.out m hg2
                  have r5 := fun n => conv_str (P := Try.prog) Try.underlying28 Try.underlying5 Try.underlying9 (H6.tail.drewN n).own_is
                  have r3 := fun n => conv_str (P := Try.prog) Try.underlying28 Try.underlying5 Try.underlying9 (H6.tail.pull2.drewN n).own_is
                  have hbs : bstr Cs = bstr Bs := by rw [hCB2]
                  rw [hbs] at r5
                  replace hCB2 := Lib.hid hCB2
                  replace hbs := Lib.hid hbs
                  replace hg2 := Lib.hid hg2
                  go_upto_region 18 with fail
                  go_quiet (first | (go_at_call 10; exact num6_q _ _ _) | fail)
                  clear jw
                  go_wp2_with fail
                  go_roundw
                  case rel => exact ⟨i + 1, al + l.length, by omega, by omega, by congr 1, by congr 1, H6.tail.tail.tail.tail.drewN _, ((((Sr.trans S1).trans S3).trans S5).trans S6).drewN _⟩
                  case measure => (simp [intOf] <;> omega)
                · have d1 : decide (Bs.length < Cs.length) = false := by simp; omega
                  have d2 : decide ((1 : Int) < (Cs.length : Int)) = false := by simp; omega
                  have hCB2 := hless.out m hg2
                  have r5 := fun n => conv_str (P := Try.prog) Try.underlying28 Try.underlying5 Try.underlying9 (H6.tail.drewN n).own_is
                  have r3 := fun n => conv_str (P := Try.prog) Try.underlying28 Try.underlying5 Try.underlying9 (H6.tail.pull2.drewN n).own_is
                  have hbs : bstr Cs = bstr Bs := by rw [hCB2]
                  rw [hbs] at r5
                  replace hCB2 := Lib.hid hCB2
                  replace hbs := Lib.hid hbs
                  replace hg2 := Lib.hid hg2
                  go_upto_region 18 with fail
                  go_quiet (first | (go_at_call 10; exact num6_q _ _ _) | fail)
                  skip
                  go_wp2_with fail
                  go_roundw
                  case rel => exact ⟨i + 1, al + l.length, by omega, by omega, by congr 1, by congr 1, H6.tail.tail.tail.tail.drewN _, ((((Sr.trans S1).trans S3).trans S5).trans S6).drewN _⟩
                  case measure => (simp [intOf] <;> omega)
            · have hd : ¬ (0 : Int) < l.length := by omega
              replace hn0 := Lib.hid hn0
              go_wp2_with (first | (go_at_call 10; refine (num6_c _ _).mono ?_; rintro e w5 ⟨rfl, hw5⟩; obtain rfl := hw5.symm) | (go_at_call 12; refine hsame.mono ?_; rintro e w4 ⟨rfl, n4, rfl⟩; replace H3 := H3.drewN n4; replace S3 := S3.drewN n4; generalize w3.drewN n4 = w4 at H3 S3 ⊢) | fail)
              go_roundw
              case rel => exact ⟨i + 1, al + l.length, by omega, by omega, by congr 1, by congr 1, H3.tail.tail, (Sr.trans S1).trans S3⟩
              case measure => (simp [intOf] <;> omega)
          · go_wp2_with fail
            refine (tPack_bad _ l _ _ Hr hsu.cons (by omega) hil hr).mono ?_
            rintro e w1 ⟨rfl, H1, S1⟩
            go_wp2_with fail
            refine (rising6_c _ l _ (hsu _ H1.tail) (by omega)).mono ?_
            rintro e w2 ⟨b2, rfl, hb2, n2, rfl⟩
            obtain rfl : b2 = false := by
              cases b2
              · rfl
              · exact absurd (hb2.1 rfl) hr
            clear hb2
            replace hr := Lib.hid hr
            replace H1 := H1.drewN n2
            replace S1 := S1.drewN n2
            generalize w1.drewN n2 = w2 at H1 S1 ⊢
            go_wp2_with (go_at_call 10; refine (num6_c _ _).mono ?_; rintro e w5 ⟨rfl, hw5⟩; obtain rfl := hw5.symm)
            go_roundw
            case rel => exact ⟨i + 1, al + l.length, by omega, by omega, by congr 1, by congr 1, H1, Sr.trans S1⟩
            case measure => (simp [intOf] <;> omega)
    · have hcase : i < L.length ∨ ¬ i < L.length := by omega
      rcases hcase with hjl | hjl
      all_goals
        go_wp2_with fail
        refine (works6_c _ _ Hr).mono ?_
        rintro e w1 ⟨rfl, H1, S1⟩
        go_wp2_with fail
        refine bodyPost_ret (results_tmp rfl _ _ _) rfl ⟨rfl, H1.tail, Sr.trans S1⟩
end Go.Proofs.Ytakaolcajbhkiaa
