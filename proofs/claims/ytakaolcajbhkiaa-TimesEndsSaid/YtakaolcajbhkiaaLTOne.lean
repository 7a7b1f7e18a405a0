/- The law TimesOne, walked. -/
import Derived.Test.YtakaolcajbhkiaaLTBack
import Derived.Deep.CutBlock
import Derived.Deep.DeepCutAuto
namespace Go.SL
open Go.RowKit Go.Fm
/-- The row of a place, in whatever world holds it. -/
theorem RowsSeen.place {α : Type} {F : List HProp} {f : α → List Value} {v : Value} {L : List α} (h : RowsSeen F f v L) {w : World} (hw : Holds w F) {i : Nat} (hi : i < L.length) :
    ∃ g off cap u, v = .slice (some ⟨g, off, none⟩) L.length cap ∧ L.length ≤ cap ∧ cap ≤ maxLen ∧ (∀ w', Holds w' F → w'.cell? ⟨g, off + i, none⟩ = some u) ∧ Sees F 1 u (f L[i]).length (f L[i]) := by
  obtain ⟨vs, h1, h2, h3⟩ := h
  obtain ⟨g, off, cap, hv, hc1, hc2, hc⟩ := (h2 w hw).at (by omega)
  have hiv : i < vs.length := by omega
  refine ⟨g, off, cap, vs[i], hv, hc1, hc2, fun w' hw' => ?_, h3 i _ _ (List.getElem?_eq_getElem hiv) (List.getElem?_eq_getElem hi)⟩
  rcases (h2 w' hw').2 with ⟨h0, _⟩ | ⟨ad, cp, h0, _, _, h5⟩
  · rw [hv] at h0; cases h0
  · rw [hv] at h0
    simp only [Value.slice.injEq, Option.some.injEq] at h0
    obtain ⟨rfl, _, _⟩ := h0
    have := h5 i _ (List.getElem?_eq_getElem hiv)
    rwa [add_plain'] at this
end Go.SL
namespace Go.Proofs.Ytakaolcajbhkiaa
open Go.RowKit Go.SL Go.Fm
set_option linter.unusedVariables false
set_option linter.unusedSimpArgs false

set_option maxRecDepth 100000 in
set_option maxHeartbeats 8000000 in
theorem TimesOne_c (v0 v1 v2 : Value) (B : List (List Nat)) (N : List Int) (w : World) (F : List HProp) (H : Holds w F) (hB : RowsSeen F bv v1 B) (hb : ∀ b ∈ B, (∀ x ∈ b, x < 256) ∧ b.length ≤ 200000000000000)
    (hN : Sees F 1 v2 N.length (iv N)) (hI : I64 N) (hNl : N.length ≤ maxLen) :
    Calls Try.prog 4 #[.agg #[v0, v1, v2]] w (Ret w (.bool true) F) := by
  obtain ⟨a1, k1, rfl⟩ := hB.shape H
  obtain ⟨a2, k2, rfl⟩ := slice_shape' (hN w H)
  have HB := H.alloc (.cells #[v0, .slice a1 B.length k1, .slice a2 N.length k2] 26)
  unfold maxLen at hNl
  go_enter Try.func4, Try.ntmps4
  go_wp2
  go_loopw [3, 4] (fun s3 s4 wl => ∃ (i al : Nat), i ≤ 100 ∧ al ≤ 131072 ∧ s3 = .int .i64 al ∧ s4 = .int .i64 i ∧ Holds wl (pts w.heap.size (.cells #[v0, .slice a1 B.length k1, .slice a2 N.length k2] 26 (0, 0)) :: F) ∧ Str w wl) (fun _ s4 _ => (200 - intOf s4).toNat)
  case atStart => exact ⟨0, 0, by omega, by omega, rfl, rfl, HB, (Str.refl w).alloc _⟩
  case round =>
    clear HB
    obtain ⟨i, al, hi, hal, rfl, rfl, Hr, Sr⟩ := hrel
    have cb := Hr.cell 1
    have cb2 := Hr.cell 2
    simp at cb cb2
    by_cases hin : i < B.length ∧ i < 100
    · obtain ⟨hiL, hi100⟩ := hin
      obtain ⟨g, off, cap, u, hv, hcap, hcm, hcuw, hsu⟩ := hB.place Hr.tail hiL
      have hcu := hcuw _ Hr.tail
      replace hcuw := Lib.hid hcuw
      simp only [Value.slice.injEq] at hv
      obtain ⟨rfl, _, rfl⟩ := hv
      obtain ⟨b, hbb⟩ : ∃ b, b = B[i] := ⟨_, rfl⟩
      obtain ⟨hil, hlm⟩ := hb _ (List.getElem_mem hiL)
      rw [← hbb] at hsu hil hlm
      rw [length_bv] at hsu
      replace hbb := Lib.hid hbb
      unfold maxLen at hcm
      obtain ⟨au, cu, rfl⟩ := slice_shape' (hsu _ Hr.tail)
      by_cases hall : 131072 < al + b.length
      · have hall' : (131072 : Int) < (al : Int) + b.length := by omega
        go_wp2_with fail
        refine (works6_c _ _ Hr).mono ?_
        rintro e w1 ⟨rfl, H1, S1⟩
        go_wp2_with fail
        refine bodyPost_ret (results_tmp rfl _ _ _) rfl ⟨rfl, H1.tail, Sr.trans S1⟩
      · have hall' : ¬ (131072 : Int) < (al : Int) + b.length := by omega
        go_upto_if 35 with fail
        go_cut [5] (fun s5 wc => ∃ nn : Int, -9223372036854775808 ≤ nn ∧ nn ≤ 9223372036854775807 ∧ s5 = .int .i64 nn ∧ wc = wr)
        case first =>
          by_cases hiN : i < N.length
          · obtain ⟨g2, off2, cap2, hv2, hcap2, hcm2, hc2⟩ := (hN _ Hr.tail).at (by omega)
            simp only [Value.slice.injEq] at hv2
            obtain ⟨rfl, _, rfl⟩ := hv2
            unfold maxLen at hcm2
            have d2 := hc2 i _ (iv_at hiN)
            obtain ⟨q1, q2⟩ := hI.getD i
            obtain ⟨t, ht⟩ : ∃ t, t = N.getD i 0 := ⟨_, rfl⟩
            rw [← ht] at d2 q1 q2
            replace ht := Lib.hid ht
            clear hc2
            go_wp2_with fail
            go_meet
            case rel => exact ⟨t, q1, q2, rfl, rfl⟩
          · go_wp2_with fail
            go_meet
            case rel => exact ⟨0, by omega, by omega, rfl, rfl⟩
        case rest =>
          obtain ⟨nn, q1, q2, rfl, hwc⟩ := hcut
          obtain rfl := hwc
          by_cases hnn : nn < 0 ∨ 4096 < nn
          · go_wp2_with fail
            refine (tUnpack_many _ nn _ _ Hr hnn).mono ?_
            rintro e w1 ⟨rfl, H1, S1⟩
            rcases hnn with hnn | hnn
            · go_wp2_with (go_at_call 10; refine (num6_c _ _).mono ?_; rintro e w5 ⟨rfl, hw5⟩; obtain rfl := hw5.symm)
              go_roundw
              case rel => exact ⟨i + 1, al + b.length, by omega, by omega, by congr 1, by congr 1, H1, Sr.trans S1⟩
              case measure => (simp [intOf] <;> omega)
            · have hn0 : ¬ nn < 0 := by omega
              go_wp2_with (go_at_call 10; refine (num6_c _ _).mono ?_; rintro e w5 ⟨rfl, hw5⟩; obtain rfl := hw5.symm)
              go_roundw
              case rel => exact ⟨i + 1, al + b.length, by omega, by omega, by congr 1, by congr 1, H1, Sr.trans S1⟩
              case measure => (simp [intOf] <;> omega)
          · obtain ⟨n, rfl⟩ : ∃ n : Nat, nn = n := ⟨nn.toNat, by omega⟩
            have hn4 : n ≤ 4096 := by omega
            have hn41 : ¬ (4096 : Int) < n := by omega
            have hn40 : ¬ (n : Int) < 0 := by omega
            have hU := tUnpack_c (.slice au b.length cu) b n wc _ Hr (hsu _ Hr.tail) hil (by omega) hn4
            clear hnn q1 q2
            go_wp2_with fail
            refine hU.mono ?_
            cases hg : tGet ⟨unpack b, 0⟩ n with
            | none =>
              rintro e w1 ⟨rfl, H1, S1⟩
              replace hg := Lib.hid hg
              go_wp2_with (go_at_call 10; refine (num6_c _ _).mono ?_; rintro e w5 ⟨rfl, hw5⟩; obtain rfl := hw5.symm)
              go_roundw
              case rel => exact ⟨i + 1, al + b.length, by omega, by omega, by congr 1, by congr 1, H1, Sr.trans S1⟩
              case measure => (simp [intOf] <;> omega)
            | some l =>
              rintro e w1 ⟨v3, rfl, H1, S1⟩
              obtain ⟨f1, f2, f3, f4⟩ := tGet_front hil hg
              obtain ⟨a3, c3, rfl⟩ := own_shape H1
              have hP := tPack_ok (.slice a3 l.length c3) l w1 _ H1 sees_own (by omega) f3 f2
              rw [f1, f4] at hP
              rw [f1] at H1 ⊢
              replace hg := Lib.hid hg
              replace f1 := Lib.hid f1
              replace f4 := Lib.hid f4
              go_wp2_with (go_at_call 10; refine (num6_c _ _).mono ?_; rintro e w5 ⟨rfl, hw5⟩; obtain rfl := hw5.symm)
              refine hP.mono ?_
              rintro e w2 ⟨v4, rfl, H2, S2⟩
              obtain ⟨a4, c4, rfl⟩ := own_shape H2
              have kR : ∀ m, Calls Try.prog 9 #[.slice a3 n c3] (w2.drewN m) (fun e w' => e = .returned (.bool true) ∧ ∃ k, w' = (w2.drewN m).drewN k) := fun m =>
                (rising6_c (.slice a3 n c3) l (w2.drewN m) (by rw [f1.out]; exact (H2.swap.drewN m).own_is) (by rw [f1.out]; omega)).mono fun e w' ⟨bb, he, hbb2, hw⟩ => ⟨by rw [he, hbb2.2 f2], hw⟩
              have r5 := fun n => conv_str (P := Try.prog) Try.underlying28 Try.underlying5 Try.underlying9 (H2.drewN n).own_is
              have r3 := fun n => conv_str (P := Try.prog) Try.underlying28 Try.underlying5 Try.underlying9 (hsu _ (H2.drewN n).tail.tail.tail)
              have cb' := H2.pull2.cell 1
              simp at cb'
              have hcu' := hcuw.out _ H2.tail.tail.tail
              replace kR := Lib.hid kR
              replace f2 := Lib.hid f2
              have hii : (0 : Int) ≤ (i : Int) := by omega
              have hij : (i : Int) < (B.length : Int) := by omega
              go_upto_region 15 with fail
              go_quiet (first | (go_at_call 10; exact num6_q _ _ _) | (go_at_call 9; exact Calls.quiet_of (kR.out _)) | fail)
              go_wp2_with fail
              go_roundw
              case rel => exact ⟨i + 1, al + b.length, by omega, by omega, by congr 1, by congr 1, H2.tail.tail.drewN _, ((Sr.trans S1).trans S2).drewN _⟩
              case measure => (simp [intOf] <;> omega)
    · have hcase : i < B.length ∨ ¬ i < B.length := by omega
      rcases hcase with hjl | hjl
      all_goals
        go_wp2_with fail
        refine (works6_c _ _ Hr).mono ?_
        rintro e w1 ⟨rfl, H1, S1⟩
        go_wp2_with fail
        refine bodyPost_ret (results_tmp rfl _ _ _) rfl ⟨rfl, H1.tail, Sr.trans S1⟩
end Go.Proofs.Ytakaolcajbhkiaa
