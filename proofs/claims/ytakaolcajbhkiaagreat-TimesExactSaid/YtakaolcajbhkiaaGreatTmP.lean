/- Rows of times: Pack, walked. -/
import Derived.Test.YtakaolcajbhkiaaGreatTmW
import Derived.Test.YtakaolcajbhkiaaGreatLW
namespace Go.SL
set_option linter.unusedVariables false
set_option linter.unusedSimpArgs false
open Go.RowKit Go.Fm
/-- Times as values. -/
def iv (l : List Int) : List Value := l.map fun x : Int => Value.int .i64 x
@[simp] theorem length_iv (l : List Int) : (iv l).length = l.length := by simp [iv]
theorem iv_at {l : List Int} {i : Nat} (h : i < l.length) : (iv l)[i]? = some (.int .i64 (l.getD i 0)) := by simp [iv, List.getD, List.getElem?_eq_getElem h]
theorem iv_append (l m : List Int) : iv (l ++ m) = iv l ++ iv m := by simp [iv]
theorem iv_cell {l : List Int} : ∀ u ∈ iv l, u.oneCell' = true := by
  intro u hu
  obtain ⟨x, _, rfl⟩ := List.mem_map.1 hu
  rfl
theorem slice_shape' {w : World} {s n : Nat} {v : Value} {xs : List Value} (h : SliceIs w s v n xs) : ∃ a c, v = .slice a n c := by
  rcases h.2 with ⟨h, h'⟩ | ⟨a, c, h, _⟩
  · rw [h, h']; exact ⟨_, _, rfl⟩
  · exact ⟨_, _, h⟩
end Go.SL
namespace Go.Proofs.YtakaolcajbhkiaaGreat
open Go.RowKit Go.SL Go.Fm
set_option linter.unusedVariables false
set_option linter.unusedSimpArgs false

theorem u64_sub (t p : Int) : IntKind.u64.wrap (IntKind.u64.wrap t - IntKind.u64.wrap p) = ((u64 (t - p) : Nat) : Int) := by
  rw [u64_wrap, u64_wrap t, u64_wrap p]
  unfold u64
  omega
theorem bend_num (d b : Nat) : wrap64 (IntKind.u64.wrap ((d : Int) - b)) = wrap64 ((d : Int) - b) := by
  rw [u64_wrap]
  unfold u64 wrap64
  omega

set_option maxRecDepth 100000 in
set_option maxHeartbeats 1000000 in
theorem tPack_many (v : Value) (l : List Int) (w : World) (F : List HProp) (H : Holds w F) (hv : Sees F 1 v l.length (iv l)) (hn : 4096 < l.length) :
    Calls Tryz.prog 14 #[v] w (Ret w (.tuple #[.slice none 0 0, .int .i64 60]) F) := by
  obtain ⟨a0, c0, rfl⟩ := slice_shape' (hv w H)
  go_enter Tryz.func14, Tryz.ntmps14
  go_wp2
  go_ret2
  exact ⟨rfl, H, Str.refl w⟩

set_option maxRecDepth 100000 in
set_option maxHeartbeats 4000000 in
theorem tPack_ok (v : Value) (l : List Int) (w : World) (F : List HProp) (H : Holds w F) (hv : Sees F 1 v l.length (iv l)) (hn : l.length ≤ 4096) (hI : I64 l) (hr : Rising l) :
    Calls Tryz.prog 14 #[v] w (fun e w' => ∃ v', e = .returned (.tuple #[v', .int .i64 0]) ∧ Holds w' (own 5 1 v' (pack (tTo l l.length)).length (bv (pack (tTo l l.length))) :: F) ∧ Str w w') := by
  obtain ⟨a0, c0, rfl⟩ := slice_shape' (hv w H)
  have HW := new_writer H
  have hn4 : ¬ (4096 : Int) < l.length := by omega
  go_enter Tryz.func14, Tryz.ntmps14
  go_wp2
  go_loopw [5, 15] (fun s5 s15 wl => ∃ j : Nat, j ≤ l.length ∧ s5 = .int .u64 (dAt l (j - 1) : Nat) ∧ s15 = .int .i64 j ∧ Holds wl (wS w.heap.size ⟨tTo l j, 0⟩ :: F) ∧ Str w wl) (fun _ s15 _ => (5000 - intOf s15).toNat)
  case atStart => exact ⟨0, by omega, rfl, rfl, HW, (Str.refl w).alloc _⟩
  case round =>
    clear HW
    obtain ⟨j, hj, rfl, rfl, Hr, Sr⟩ := hrel
    have hlen := tTo_le l j
    by_cases hjn : j < l.length
    · obtain ⟨g, off, cap, hv1, hcap, hcm, hc⟩ := (hv _ Hr.tail).at (by omega)
      simp only [Value.slice.injEq] at hv1
      obtain ⟨rfl, _, rfl⟩ := hv1
      unfold maxLen at hcm
      have c1 := hc j _ (iv_at hjn)
      have b1 := hI.getD j
      obtain ⟨t, ht⟩ : ∃ t, t = l.getD j 0 := ⟨_, rfl⟩
      rw [← ht] at c1 b1
      obtain ⟨b1, b1'⟩ := b1
      have hsu := tTo_succ l j
      by_cases h0 : j = 0
      · clear hc
        have e1 : tAt l j = bitsOf (u64 t) 64 := by rw [h0] at ht ⊢; rw [ht]; rfl
        have e2 : (⟨tTo l j, 0⟩ : Ws).bits (u64 t) 64 = ⟨tTo l (j + 1), 0⟩ := by
          have := bits_put ⟨tTo l j, 0⟩ (u64 t) 64 (by decide) (u64_lt t)
          rw [hsu, e1]
          exact this
        have hj0 : ((j : Int) == 0) = true := by simp [h0]
        have hu0 := u64_lt t
        have hu1 := u64_wrap t
        have e3 : dAt l (j + 1 - 1) = dAt l (j - 1) := by rw [h0]
        replace e1 := Lib.hid e1
        replace e2 := Lib.hid e2
        replace e3 := Lib.hid e3
        replace ht := Lib.hid ht
        replace hsu := Lib.hid hsu
        replace h0 := Lib.hid h0
        replace hu1 := Lib.hid hu1
        go_wp2_with fail
        rw [hu1.out]
        refine (wBits_c _ _ 64 _ _ _ Hr (by omega) (by omega) (by simp only []; omega)).mono ?_
        rw [Int.toNat_natCast, e2.out]
        rintro e w1 ⟨rfl, H1, S1⟩
        go_wp2_with fail
        go_roundw
        case rel => exact ⟨j + 1, by omega, by rw [e3.out], by congr 1, H1, Sr.trans S1⟩
        case measure => (simp [intOf] <;> omega)
      · have c2 := hc (j - 1) _ (iv_at (by omega))
        have b2 := hI.getD (j - 1)
        clear hc
        have hlt := hr (j - 1) (by omega)
        rw [Nat.sub_add_cancel (by omega), ← ht] at hlt
        obtain ⟨p, hp⟩ : ∃ p, p = l.getD (j - 1) 0 := ⟨_, rfl⟩
        rw [← hp] at c2 b2 hlt
        obtain ⟨b2, b2'⟩ := b2
        have hd : dAt l j = u64 (t - p) := by unfold dAt; rw [if_neg h0, ht, hp]
        have e1 : tAt l j = tbits (zigzag (wrap64 ((dAt l j : Int) - dAt l (j - 1)))) := by unfold tAt; rw [if_neg h0]
        have hdl := dAt_lt l j
        obtain ⟨B, hBd⟩ : ∃ B, B = dAt l (j - 1) := ⟨_, rfl⟩
        rw [← hBd] at e1 ⊢
        have hj0 : ((j : Int) == 0) = false := by simp; omega
        have ix : ((j : Int) - 1).toNat = j - 1 := by omega
        have ix0 : (0 : Int) ≤ (j : Int) - 1 := by omega
        have ix1 : (j : Int) - 1 < l.length := by omega
        have hz : bits .xor .u64 (IntKind.u64.wrap (IntKind.u64.wrap (wrap64 (IntKind.u64.wrap (IntKind.u64.wrap (IntKind.u64.wrap t - IntKind.u64.wrap p) - (B : Int)))) * 2)) (IntKind.u64.wrap (wrap64 (IntKind.u64.wrap (IntKind.u64.wrap (IntKind.u64.wrap t - IntKind.u64.wrap p) - (B : Int))) / 9223372036854775808)) = ((zigzag (wrap64 ((dAt l j : Int) - B)) : Nat) : Int) := by
          rw [u64_sub, bend_num, ← hd]
          exact zig_num _ (wrap64_range _).1 (wrap64_range _).2
        have hd2 : IntKind.u64.wrap (IntKind.u64.wrap t - IntKind.u64.wrap p) = ((dAt l (j + 1 - 1) : Nat) : Int) := by rw [u64_sub, Nat.add_sub_cancel, hd]
        have hzl := zigzag_lt _ (wrap64_range ((dAt l j : Int) - B)).1 (wrap64_range ((dAt l j : Int) - B)).2
        replace e1 := Lib.hid e1
        replace hd := Lib.hid hd
        replace hd2 := Lib.hid hd2
        replace hz := Lib.hid hz
        replace hzl := Lib.hid hzl
        replace ht := Lib.hid ht
        replace hp := Lib.hid hp
        replace hBd := Lib.hid hBd
        replace hsu := Lib.hid hsu
        replace hdl := Lib.hid hdl
        go_wp2_with fail
        rw [hz.out]
        refine (tLay_c _ _ _ _ _ Hr hzl.out (by simp only []; omega)).mono ?_
        rw [show (⟨tTo l j, 0⟩ : Ws).put (tbits (zigzag (wrap64 ((dAt l j : Int) - B)))) = ⟨tTo l (j + 1), 0⟩ by rw [hsu.out, e1.out]; rfl]
        rintro e w1 ⟨rfl, H1, S1⟩
        go_wp2_with fail
        go_roundw
        case rel => exact ⟨j + 1, by omega, by rw [← hd2.out], by congr 1, H1, Sr.trans S1⟩
        case measure => (simp [intOf] <;> omega)
    · obtain rfl : j = l.length := by omega
      go_wp2_with fail
      refine (wDone_ok _ _ _ _ Hr rfl (by simp only []; omega)).mono ?_
      rintro e w1 ⟨v1, rfl, H1, S1⟩
      go_wp2_with fail
      go_ret2
      exact ⟨v1, rfl, H1.swap.tail, Sr.trans S1⟩

set_option maxRecDepth 100000 in
set_option maxHeartbeats 4000000 in
theorem tPack_bad (v : Value) (l : List Int) (w : World) (F : List HProp) (H : Holds w F) (hv : Sees F 1 v l.length (iv l)) (hn : l.length ≤ 4096) (hI : I64 l) (hr : ¬ Rising l) :
    Calls Tryz.prog 14 #[v] w (Ret w (.tuple #[.slice none 0 0, .int .i64 61]) F) := by
  obtain ⟨a0, c0, rfl⟩ := slice_shape' (hv w H)
  have HW := new_writer H
  have hn4 : ¬ (4096 : Int) < l.length := by omega
  replace hr := Lib.hid hr
  go_enter Tryz.func14, Tryz.ntmps14
  go_wp2
  go_loopw [5, 15] (fun s5 s15 wl => ∃ (j B : Nat) (s : Ws), j ≤ l.length ∧ s5 = .int .u64 (B : Nat) ∧ s15 = .int .i64 j ∧ (∀ i, i + 1 < j → l.getD i 0 < l.getD (i + 1) 0) ∧ s.L.length ≤ 68 * j ∧ Holds wl (wS w.heap.size s :: F) ∧ Str w wl) (fun _ s15 _ => (5000 - intOf s15).toNat)
  case atStart => exact ⟨0, 0, _, by omega, rfl, rfl, fun i hi => by omega, by simp, HW, (Str.refl w).alloc _⟩
  case round =>
    clear HW
    obtain ⟨j, B, s, hj, rfl, rfl, hup, hlen, Hr, Sr⟩ := hrel
    replace hup := Lib.hid hup
    by_cases hjn : j < l.length
    · obtain ⟨g, off, cap, hv1, hcap, hcm, hc⟩ := (hv _ Hr.tail).at (by omega)
      simp only [Value.slice.injEq] at hv1
      obtain ⟨rfl, _, rfl⟩ := hv1
      unfold maxLen at hcm
      have c1 := hc j _ (iv_at hjn)
      have b1 := hI.getD j
      obtain ⟨t, ht⟩ : ∃ t, t = l.getD j 0 := ⟨_, rfl⟩
      rw [← ht] at c1 b1
      obtain ⟨b1, b1'⟩ := b1
      by_cases h0 : j = 0
      · clear hc
        have hj0 : ((j : Int) == 0) = true := by simp [h0]
        have hu0 := u64_lt t
        have hu1 := u64_wrap t
        have hbl := bits_len s (u64 t) 64
        replace ht := Lib.hid ht
        replace h0 := Lib.hid h0
        replace hu1 := Lib.hid hu1
        go_wp2_with fail
        rw [hu1.out]
        refine (wBits_c _ _ 64 _ _ _ Hr (by omega) (by omega) (by omega)).mono ?_
        rw [Int.toNat_natCast]
        rintro e w1 ⟨rfl, H1, S1⟩
        go_wp2_with fail
        go_roundw
        case rel => exact ⟨j + 1, B, _, by omega, rfl, by congr 1, fun i hi => by have := h0.out; omega, by omega, H1, Sr.trans S1⟩
        case measure => (simp [intOf] <;> omega)
      · have c2 := hc (j - 1) _ (iv_at (by omega))
        have b2 := hI.getD (j - 1)
        clear hc
        obtain ⟨p, hp⟩ : ∃ p, p = l.getD (j - 1) 0 := ⟨_, rfl⟩
        rw [← hp] at c2 b2
        obtain ⟨b2, b2'⟩ := b2
        have hj0 : ((j : Int) == 0) = false := by simp; omega
        have ix : ((j : Int) - 1).toNat = j - 1 := by omega
        have ix0 : (0 : Int) ≤ (j : Int) - 1 := by omega
        have ix1 : (j : Int) - 1 < l.length := by omega
        replace ht := Lib.hid ht
        replace hp := Lib.hid hp
        by_cases hlt : p < t
        · have hz : bits .xor .u64 (IntKind.u64.wrap (IntKind.u64.wrap (wrap64 (IntKind.u64.wrap (IntKind.u64.wrap (IntKind.u64.wrap t - IntKind.u64.wrap p) - (B : Int)))) * 2)) (IntKind.u64.wrap (wrap64 (IntKind.u64.wrap (IntKind.u64.wrap (IntKind.u64.wrap t - IntKind.u64.wrap p) - (B : Int))) / 9223372036854775808)) = ((zigzag (wrap64 ((u64 (t - p) : Int) - B)) : Nat) : Int) := by
            rw [u64_sub, bend_num]
            exact zig_num _ (wrap64_range _).1 (wrap64_range _).2
          have hzl := zigzag_lt _ (wrap64_range ((u64 (t - p) : Int) - B)).1 (wrap64_range ((u64 (t - p) : Int) - B)).2
          have hd2 := u64_sub t p
          have hbl := put_len s (tbits (zigzag (wrap64 ((u64 (t - p) : Int) - B))))
          have hbt := tbits_le (zigzag (wrap64 ((u64 (t - p) : Int) - B)))
          have hup' : ∀ i, i + 1 < j + 1 → l.getD i 0 < l.getD (i + 1) 0 := by
            intro i hi
            by_cases hij : i + 1 = j
            · rw [hij, show i = j - 1 by omega, ← ht.out, ← hp.out]; exact hlt
            · exact hup.out i (by omega)
          replace hup' := Lib.hid hup'
          replace hd2 := Lib.hid hd2
          replace hz := Lib.hid hz
          replace hzl := Lib.hid hzl
          have hbb : (s.put (tbits (zigzag (wrap64 ((u64 (t - p) : Int) - B))))).L.length ≤ 68 * (j + 1) := by omega
          replace hbb := Lib.hid hbb
          clear hbl hbt
          go_wp2_with fail
          rw [hz.out]
          refine (tLay_c _ _ _ _ _ Hr hzl.out (by omega)).mono ?_
          rintro e w1 ⟨rfl, H1, S1⟩
          go_wp2_with fail
          go_roundw
          case rel => exact ⟨j + 1, _, _, by omega, by rw [hd2.out], by congr 1, hup'.out, hbb.out, H1, Sr.trans S1⟩
          case measure => (simp [intOf] <;> omega)
        · go_wp2_with fail
          go_ret2
          exact ⟨rfl, Hr.tail, Sr⟩
    · obtain rfl : j = l.length := by omega
      exact absurd (fun i hi => hup.out i hi) hr.out
end Go.Proofs.YtakaolcajbhkiaaGreat
