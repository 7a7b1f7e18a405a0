/- The document's times: laying a zigzag. The document's times: rising, Pack. -/
import Derived.Test.YtakaolcajbhkiaaGreatTmW
import Derived.Test.YtakaolcajbhkiaaGreatR2
import Derived.Test.YtakaolcajbhkiaaGreatTmP
import Derived.Test.YtakaolcajbhkiaaGreatLTm
import Derived.Test.YtakaolcajbhkiaaGreatLLate1
namespace Go.Proofs.YtakaolcajbhkiaaGreat
open Go.RowKit Go.SL Go.Fm
set_option linter.unusedVariables false
set_option linter.unusedSimpArgs false
theorem dlay0 (s : Ws) : s.bits 0 1 = s.put (tbits 0) := bits_put s 0 1 (by decide) (by decide)
theorem dlay1 (s : Ws) (u : Nat) (h1 : 1 ≤ u) (h2 : u < 129) : (s.bits 2 2).bits (u - 1) 7 = s.put (tbits u) := by
  have e1 : s.bits 2 2 = s.put [true, false] := bits_put s 2 2 (by decide) (by decide)
  have e2 : ∀ s : Ws, s.bits (u - 1) 7 = s.put (bitsOf (u - 1) 7) := fun s => bits_put s (u - 1) 7 (by decide) (by omega)
  rw [e1, e2, put_put]
  unfold tbits
  rw [if_neg (by omega), if_pos (by omega)]
theorem dlay2 (s : Ws) (u : Nat) (h1 : 129 ≤ u) (h2 : u < 4225) : (s.bits 6 3).bits (u - 129) 12 = s.put (tbits u) := by
  have e1 : s.bits 6 3 = s.put [true, true, false] := bits_put s 6 3 (by decide) (by decide)
  have e2 : ∀ s : Ws, s.bits (u - 129) 12 = s.put (bitsOf (u - 129) 12) := fun s => bits_put s (u - 129) 12 (by decide) (by omega)
  rw [e1, e2, put_put]
  unfold tbits
  rw [if_neg (by omega), if_neg (by omega), if_pos (by omega)]
theorem dlay3 (s : Ws) (u : Nat) (h1 : 4225 ≤ u) (h2 : u < 1052801) : (s.bits 14 4).bits (u - 4225) 20 = s.put (tbits u) := by
  have e1 : s.bits 14 4 = s.put [true, true, true, false] := bits_put s 14 4 (by decide) (by decide)
  have e2 : ∀ s : Ws, s.bits (u - 4225) 20 = s.put (bitsOf (u - 4225) 20) := fun s => bits_put s (u - 4225) 20 (by decide) (by omega)
  rw [e1, e2, put_put]
  unfold tbits
  rw [if_neg (by omega), if_neg (by omega), if_neg (by omega), if_pos (by omega)]
set_option maxRecDepth 100000 in
set_option maxHeartbeats 1000000 in
theorem dLay_c (b u : Nat) (s : Ws) (w : World) (F : List HProp) (H : Holds w (fS b s :: F)) (hu : u < 18446744073709551616) (hL : s.L.length ≤ 1000000000) :
    Calls Tryz.prog 34 #[.pointer (some ⟨b, 0, none⟩), .int .u64 u] w (Ret w (.tuple #[]) (fS b (s.put (tbits u)) :: F)) := by
  have hlu := fun X n => bits_len s X n
  by_cases h0 : u = 0
  · subst h0
    go_enter Tryz.func34, Tryz.ntmps34
    go_wp2_with fail
    refine (rwBits_c b 0 1 s _ _ H (by omega) (by omega)).mono ?_
    rintro e w1 ⟨rfl, H1, S1⟩
    go_wp2_with fail
    go_end0
    exact ⟨rfl, by rw [← dlay0]; exact H1, S1⟩
  have h0' : ((u : Int) == 0) = false := by simp; omega
  by_cases h1 : (u : Int) ≤ 128
  · have e3 : (u : Int) - 1 = ((u - 1 : Nat) : Int) := by omega
    go_enter Tryz.func34, Tryz.ntmps34
    go_wp2_with fail
    refine (rwBits_c b 2 2 s _ _ H (by omega) (by omega)).mono ?_
    rintro e w1 ⟨rfl, H1, S1⟩
    go_wp2_with fail
    refine (rwBits_c b (u - 1) 7 _ _ _ H1 (by omega) (by have := hlu 2 2; omega)).mono ?_
    rintro e w2 ⟨rfl, H2, S2⟩
    go_wp2_with fail
    go_end0
    exact ⟨rfl, by rw [← dlay1 s u (by omega) (by omega)]; exact H2, S1.trans S2⟩
  by_cases h2 : (u : Int) ≤ 4224
  · have e3 : (u : Int) - 129 = ((u - 129 : Nat) : Int) := by omega
    go_enter Tryz.func34, Tryz.ntmps34
    go_wp2_with fail
    refine (rwBits_c b 6 3 s _ _ H (by omega) (by omega)).mono ?_
    rintro e w1 ⟨rfl, H1, S1⟩
    go_wp2_with fail
    refine (rwBits_c b (u - 129) 12 _ _ _ H1 (by omega) (by have := hlu 6 3; omega)).mono ?_
    rintro e w2 ⟨rfl, H2, S2⟩
    go_wp2_with fail
    go_end0
    exact ⟨rfl, by rw [← dlay2 s u (by omega) (by omega)]; exact H2, S1.trans S2⟩
  by_cases h3 : (u : Int) ≤ 1052800
  · have e3 : (u : Int) - 4225 = ((u - 4225 : Nat) : Int) := by omega
    go_enter Tryz.func34, Tryz.ntmps34
    go_wp2_with fail
    refine (rwBits_c b 14 4 s _ _ H (by omega) (by omega)).mono ?_
    rintro e w1 ⟨rfl, H1, S1⟩
    go_wp2_with fail
    refine (rwBits_c b (u - 4225) 20 _ _ _ H1 (by omega) (by have := hlu 14 4; omega)).mono ?_
    rintro e w2 ⟨rfl, H2, S2⟩
    go_wp2_with fail
    go_end0
    exact ⟨rfl, by rw [← dlay3 s u (by omega) (by omega)]; exact H2, S1.trans S2⟩
  · go_enter Tryz.func34, Tryz.ntmps34
    go_wp2_with fail
    refine (rwBits_c b 15 4 s _ _ H (by omega) (by omega)).mono ?_
    rintro e w1 ⟨rfl, H1, S1⟩
    go_wp2_with fail
    refine (rwBits_c b u 64 _ _ _ H1 hu (by have := hlu 15 4; omega)).mono ?_
    rintro e w2 ⟨rfl, H2, S2⟩
    go_wp2_with fail
    go_end0
    exact ⟨rfl, by rw [← tlay4 s u (by omega) hu]; exact H2, S1.trans S2⟩
end Go.Proofs.YtakaolcajbhkiaaGreat

namespace Go.Proofs.YtakaolcajbhkiaaGreat
open Go.RowKit Go.SL Go.Fm
set_option linter.unusedVariables false
set_option linter.unusedSimpArgs false

set_option maxRecDepth 100000 in
set_option maxHeartbeats 2000000 in
theorem dRising_c (v : Value) (l : List Int) (w : World) (hv : SliceIs w 1 v l.length (iv l)) (hl : l.length ≤ 1000000000) :
    Calls Tryz.prog 32 #[v] w (RisingPost l w) := by
  obtain ⟨a0, c0, rfl⟩ := slice_shape' hv
  go_enter Tryz.func32, Tryz.ntmps32
  go_wp2
  go_loopw [3] (fun s3 wl => ∃ j n : Nat, 1 ≤ j ∧ j ≤ l.length + 1 ∧ s3 = .int .i64 j ∧ (∀ i, i + 1 < j → i + 1 < l.length → l.getD i 0 < l.getD (i + 1) 0) ∧ wl = w.drewN n) (fun s3 _ => (l.length + 2 - intOf s3).toNat)
  case atStart => exact ⟨1, 0, by omega, by omega, rfl, fun i hi => by omega, rfl⟩
  case round =>
    obtain ⟨j, n, hj1, hj, rfl, hup, hw⟩ := hrel
    replace hup := Lib.hid hup
    by_cases hjn : j < l.length
    · obtain ⟨g, off, cap, hv1, hcap, hcm, hc⟩ := hv.at (by omega)
      simp only [Value.slice.injEq] at hv1
      obtain ⟨rfl, _, rfl⟩ := hv1
      unfold maxLen at hcm
      have c1 : wr.cell? ⟨g, off + j, none⟩ = some (.int .i64 (l.getD j 0)) := by rw [hw]; exact hc j _ (iv_at hjn)
      have c2 : wr.cell? ⟨g, off + (j - 1), none⟩ = some (.int .i64 (l.getD (j - 1) 0)) := by rw [hw]; exact hc (j - 1) _ (iv_at (by omega))
      clear hc
      obtain ⟨t, ht⟩ : ∃ t, t = l.getD j 0 := ⟨_, rfl⟩
      obtain ⟨p, hp⟩ : ∃ p, p = l.getD (j - 1) 0 := ⟨_, rfl⟩
      rw [← ht] at c1
      rw [← hp] at c2
      have ix : ((j : Int) - 1).toNat = j - 1 := by omega
      have ix0 : (0 : Int) ≤ (j : Int) - 1 := by omega
      have ix1 : (j : Int) - 1 < l.length := by omega
      have iw : IntKind.i64.wrap ((j : Int) - 1) = (j : Int) - 1 := IntWalk.i64_in _ (by omega)
      replace ht := Lib.hid ht
      replace hp := Lib.hid hp
      replace hw := Lib.hid hw
      by_cases hlt : p < t
      · have hup' : ∀ i, i + 1 < j + 1 → i + 1 < l.length → l.getD i 0 < l.getD (i + 1) 0 := by
          intro i hi hi2
          by_cases hij : i + 1 = j
          · rw [hij, show i = j - 1 by omega, ← ht.out, ← hp.out]; exact hlt
          · exact hup.out i (by omega) hi2
        replace hup' := Lib.hid hup'
        have hd : decide (t ≤ p) = false := by simp; omega
        go_upto_region 4 with fail
        go_quiet (fail)
        rename_i nq
        clear iw
        go_wp2_with fail
        go_roundw
        case rel => exact ⟨j + 1, n + nq, by omega, by omega, by congr 1, hup'.out, by rw [hw.out, World.drewN_drewN]⟩
        case measure => (simp [intOf] <;> omega)
      · have hd : decide (t ≤ p) = true := by simp; omega
        go_upto_region 4 with fail
        go_quiet (fail)
        rename_i nq
        clear iw
        go_wp2_with fail
        go_ret
        refine ⟨false, rfl, ⟨(fun h => by cases h), fun h => absurd (h (j - 1) (by omega)) ?_⟩, n + nq, by rw [hw.out, World.drewN_drewN]⟩
        rw [Nat.sub_add_cancel (by omega), ← ht.out, ← hp.out]
        omega
    · replace hw := Lib.hid hw
      go_wp2_with fail
      go_ret
      exact ⟨true, rfl, ⟨fun _ i hi => hup.out i (by omega) hi, fun _ => rfl⟩, n, hw.out⟩

set_option maxRecDepth 100000 in
theorem dPack_many (v : Value) (l : List Int) (w : World) (F : List HProp) (H : Holds w F) (hv : Sees F 1 v l.length (iv l)) (hn : 4096 < l.length) :
    Calls Tryz.prog 17 #[v] w (Ret w (.tuple #[.slice none 0 0, .int .i64 60]) F) := by
  obtain ⟨a0, c0, rfl⟩ := slice_shape' (hv w H)
  go_enter Tryz.func17, Tryz.ntmps17
  go_wp2
  go_ret2
  exact ⟨rfl, H, Str.refl w⟩
set_option maxRecDepth 100000 in
theorem dPack_bad (v : Value) (l : List Int) (w : World) (F : List HProp) (H : Holds w F) (hv : Sees F 1 v l.length (iv l)) (hn : l.length ≤ 4096) (hr : ¬ Rising l) :
    Calls Tryz.prog 17 #[v] w (Ret w (.tuple #[.slice none 0 0, .int .i64 61]) F) := by
  have hR := dRising_c v l w (hv w H) (by omega)
  obtain ⟨a0, c0, rfl⟩ := slice_shape' (hv w H)
  have hn4 : ¬ (4096 : Int) < l.length := by omega
  replace hr := Lib.hid hr
  go_enter Tryz.func17, Tryz.ntmps17
  go_wp2_with (go_at_call 32; refine hR.mono ?_; rintro e w0 ⟨bb, rfl, hbb, n0, rfl⟩; obtain rfl : bb = false := by (cases bb; rfl; exact absurd (hbb.1 rfl) hr.out))
  go_ret2
  exact ⟨rfl, H.drewN n0, (Str.refl w).drewN n0⟩
set_option maxRecDepth 100000 in
set_option maxHeartbeats 4000000 in
theorem dPack_ok (v : Value) (l : List Int) (w : World) (F : List HProp) (H : Holds w F) (hv : Sees F 1 v l.length (iv l)) (hn : l.length ≤ 4096) (hI : I64 l) (hr : Rising l) :
    Calls Tryz.prog 17 #[v] w (fun e w' => ∃ v', e = .returned (.tuple #[v', .int .i64 0]) ∧ Holds w' (own 5 1 v' (pack (tTo l l.length)).length (bv (pack (tTo l l.length))) :: F) ∧ Str w w') := by
  have hR := dRising_c v l w (hv w H) (by omega)
  obtain ⟨a0, c0, rfl⟩ := slice_shape' (hv w H)
  have hn4 : ¬ (4096 : Int) < l.length := by omega
  replace hr := Lib.hid hr
  go_enter Tryz.func17, Tryz.ntmps17
  go_upto_region 5 with (go_at_call 32; refine hR.mono ?_; rintro e w0 ⟨bb, rfl, hbb, n0, rfl⟩; obtain rfl : bb = true := hbb.2 hr.out; have H0 := H.drewN n0; have S0 := (Str.refl w).drewN n0)
  clear hbb hR
  generalize w.drewN n0 = w0 at H0 S0 ⊢
  have HW := new_rwriter H0
  go_wp2
  go_loopw [5, 6] (fun s5 s6 wl => ∃ j : Nat, j ≤ l.length ∧ s5 = .int .u64 (dAt l (j - 1) : Nat) ∧ s6 = .int .i64 j ∧ Holds wl (fS w0.heap.size ⟨tTo l j, 0⟩ :: F) ∧ Str w wl) (fun _ s6 _ => (5000 - intOf s6).toNat)
  case atStart => exact ⟨0, by omega, rfl, rfl, HW, S0.alloc _⟩
  case round =>
    clear HW
    obtain ⟨j, hj, rfl, rfl, Hr, Sr⟩ := hrel
    have hlen := tTo_le l j
    by_cases hjn : j < l.length
    · obtain ⟨g, off, cap, hv1, hcap, hcm, hc⟩ := (hv _ Hr.tail).at (by omega)
      simp only [Value.slice.injEq] at hv1
      obtain ⟨rfl, _, rfl⟩ := hv1
      unfold maxLen at hcm
      have hsu := tTo_succ l j
      by_cases h0 : j = 0
      · have c1 := hc 0 _ (iv_at (by omega))
        rw [Nat.add_zero] at c1
        have b1 := hI.getD 0
        obtain ⟨t, ht⟩ : ∃ t, t = l.getD 0 0 := ⟨_, rfl⟩
        rw [← ht] at c1 b1
        obtain ⟨b1, b1'⟩ := b1
        clear hc
        have e1 : tAt l j = bitsOf (u64 t) 64 := by rw [h0, ht]; rfl
        have e2 : (⟨tTo l j, 0⟩ : Ws).bits (u64 t) 64 = ⟨tTo l (j + 1), 0⟩ := by
          have := bits_put ⟨tTo l j, 0⟩ (u64 t) 64 (by decide) (u64_lt t)
          rw [hsu, e1]
          exact this
        have hj0 : ((j : Int) == 0) = true := by simp [h0]
        have hu0 := u64_lt t
        have hu1 := u64_wrap t
        have hl0 : (0 : Int) < l.length := by omega
        have e3 : dAt l (j + 1 - 1) = dAt l (j - 1) := by rw [h0]
        replace e1 := Lib.hid e1
        replace e2 := Lib.hid e2
        replace e3 := Lib.hid e3
        replace ht := Lib.hid ht
        replace hsu := Lib.hid hsu
        replace h0 := Lib.hid h0
        replace hu1 := Lib.hid hu1
        go_wp2_with fail
        rw [hu1.out]
        refine (rwBits_c _ _ 64 _ _ _ Hr (by omega) (by simp only []; omega)).mono ?_
        rw [e2.out]
        rintro e w1 ⟨rfl, H1, S1⟩
        go_wp2_with fail
        go_roundw
        case rel => exact ⟨j + 1, by omega, by rw [e3.out], by congr 1, H1, Sr.trans S1⟩
        case measure => (simp [intOf] <;> omega)
      · have c1 := hc j _ (iv_at hjn)
        have b1 := hI.getD j
        obtain ⟨t, ht⟩ : ∃ t, t = l.getD j 0 := ⟨_, rfl⟩
        rw [← ht] at c1 b1
        obtain ⟨b1, b1'⟩ := b1
        have c2 := hc (j - 1) _ (iv_at (by omega))
        have b2 := hI.getD (j - 1)
        clear hc
        obtain ⟨p, hp⟩ : ∃ p, p = l.getD (j - 1) 0 := ⟨_, rfl⟩
        rw [← hp] at c2 b2
        obtain ⟨b2, b2'⟩ := b2
        have hd : dAt l j = u64 (t - p) := by unfold dAt; rw [if_neg h0, ht, hp]
        have e1 : tAt l j = tbits (zigzag (wrap64 ((dAt l j : Int) - dAt l (j - 1)))) := by unfold tAt; rw [if_neg h0]
        have hdl := dAt_lt l j
        obtain ⟨B, hBd⟩ : ∃ B, B = dAt l (j - 1) := ⟨_, rfl⟩
        rw [← hBd] at e1 ⊢
        have hj0 : ((j : Int) == 0) = false := by simp; omega
        have ix : ((j : Int) - 1).toNat = j - 1 := by omega
        have ix0 : (0 : Int) ≤ (j : Int) - 1 := by omega
        have ix1 : (j : Int) - 1 < l.length := by omega
        have iw : IntKind.i64.wrap ((j : Int) - 1) = (j : Int) - 1 := IntWalk.i64_in _ (by omega)
        have hz : wrap64 (IntKind.u64.wrap (((dAt l j : Nat) : Int) - (B : Int))) = wrap64 ((dAt l j : Int) - B) := bend_num _ _
        have hd2 : IntKind.u64.wrap (IntKind.u64.wrap t - IntKind.u64.wrap p) = ((dAt l j : Nat) : Int) := by rw [u64_sub, hd]
        have hzr := wrap64_range ((dAt l j : Int) - B)
        have hzl := zigzag_lt _ hzr.1 hzr.2
        replace e1 := Lib.hid e1
        replace hd := Lib.hid hd
        replace hd2 := Lib.hid hd2
        replace hz := Lib.hid hz
        replace hzl := Lib.hid hzl
        replace hzr := Lib.hid hzr
        replace ht := Lib.hid ht
        replace hp := Lib.hid hp
        replace hBd := Lib.hid hBd
        replace hsu := Lib.hid hsu
        replace hdl := Lib.hid hdl
        go_upto_region 12 with fail
        go_quiet (fail)
        rename_i nq
        have H2 : Holds (wr.drewN nq) _ := Hr.drewN nq
        have S2 := Sr.drewN nq
        generalize wr.drewN nq = w2 at H2 S2 ⊢
        clear iw c1 c2
        rw [hd2.out]
        go_wp2_with fail
        rw [hz.out]
        refine (Zigzag_c _ _ hzr.out.1 hzr.out.2).mono ?_
        rintro e w3 ⟨rfl, hw3⟩
        obtain rfl := hw3.symm
        go_wp2_with fail
        refine (dLay_c _ _ _ _ _ H2 hzl.out (by simp only []; omega)).mono ?_
        rw [show (⟨tTo l j, 0⟩ : Ws).put (tbits (zigzag (wrap64 ((dAt l j : Int) - B)))) = ⟨tTo l (j + 1), 0⟩ by rw [hsu.out, e1.out]; rfl]
        rintro e w1 ⟨rfl, H1, S1⟩
        go_wp2_with fail
        go_roundw
        case rel => exact ⟨j + 1, by omega, by rw [Nat.add_sub_cancel], by congr 1, H1, S2.trans S1⟩
        case measure => (simp [intOf] <;> omega)
    · obtain rfl : j = l.length := by omega
      go_wp2_with fail
      refine (rwDone_ok _ _ _ _ Hr rfl (by simp only []; omega)).mono ?_
      rintro e w1 ⟨v1, rfl, H1, S1⟩
      go_wp2_with fail
      go_ret2
      exact ⟨v1, rfl, H1.swap.tail, Sr.trans S1⟩
end Go.Proofs.YtakaolcajbhkiaaGreat
