/- The laws of times: rising, same, num, works. -/
import Derived.Test.YtakaolcajbhkiaaTmU2
import Derived.BigQuiet
import Derived.Deep.QuietTactic
namespace Go.Proofs.Ytakaolcajbhkiaa
open Go.RowKit Go.SL Go.Fm
set_option linter.unusedVariables false
set_option linter.unusedSimpArgs false

theorem num6_c (e : Int) (w : World) : Calls Try.prog 10 #[.int .i64 e] w (fun en w' => en = .returned (.int .i64 e) ∧ w' = w) := by
  go_enter Try.func10, Try.ntmps10
  go_wp2
  go_ret
  exact ⟨rfl, rfl⟩
theorem num6_q (e : Int) (w : World) (n : Nat) : Calls Try.prog 10 #[.int .i64 e] (w.drewN n) (fun en w' => en = .returned (.int .i64 e) ∧ ∃ m, w' = w.drewN m) :=
  (num6_c e _).mono fun _ _ ⟨h, h'⟩ => ⟨h, n, h'⟩

def RisingPost (l : List Int) (w : World) (e : Ending) (w' : World) : Prop := ∃ b : Bool, e = .returned (.bool b) ∧ (b = true ↔ Rising l) ∧ ∃ n, w' = w.drewN n

set_option maxRecDepth 100000 in
set_option maxHeartbeats 2000000 in
theorem rising6_c (v : Value) (l : List Int) (w : World) (hv : SliceIs w 1 v l.length (iv l)) (hl : l.length ≤ 1000000000) :
    Calls Try.prog 9 #[v] w (RisingPost l w) := by
  obtain ⟨a0, c0, rfl⟩ := slice_shape' hv
  go_enter Try.func9, Try.ntmps9
  go_wp2
  go_loopw [3] (fun s3 wl => ∃ j n : Nat, 1 ≤ j ∧ j ≤ l.length + 1 ∧ s3 = .int .i64 j ∧ (∀ i, i + 1 < j → i + 1 < l.length → l.getD i 0 < l.getD (i + 1) 0) ∧ wl = w.drewN n) (fun s3 _ => (l.length + 2 - intOf s3).toNat)
  case atStart => exact ⟨1, 0, by omega, by omega, rfl, fun i hi => by omega, rfl⟩
  case round =>
    obtain ⟨j, n, hj1, hj, rfl, hup, hw⟩ := hrel
    replace hup := Lib.hid hup
    by_cases hjn : j < l.length
    · obtain ⟨g, off, cap, hv1, hcap, hcm, hc⟩ := hv.at (by omega)
      simp only [Value.slice.injEq] at hv1
      obtain ⟨rfl, _, rfl⟩ := hv1
      unfold maxLen at hcm
      have c1 : wr.cell? ⟨g, off + j, none⟩ = some (.int .i64 (l.getD j 0)) := by rw [hw]; exact hc j _ (iv_at hjn)
      have c2 : wr.cell? ⟨g, off + (j - 1), none⟩ = some (.int .i64 (l.getD (j - 1) 0)) := by rw [hw]; exact hc (j - 1) _ (iv_at (by omega))
      clear hc
      obtain ⟨t, ht⟩ : ∃ t, t = l.getD j 0 := ⟨_, rfl⟩
      obtain ⟨p, hp⟩ : ∃ p, p = l.getD (j - 1) 0 := ⟨_, rfl⟩
      rw [← ht] at c1
      rw [← hp] at c2
      have ix : ((j : Int) - 1).toNat = j - 1 := by omega
      have ix0 : (0 : Int) ≤ (j : Int) - 1 := by omega
      have ix1 : (j : Int) - 1 < l.length := by omega
      have iw : IntKind.i64.wrap ((j : Int) - 1) = (j : Int) - 1 := IntWalk.i64_in _ (by omega)
      replace ht := Lib.hid ht
      replace hp := Lib.hid hp
      replace hw := Lib.hid hw
      by_cases hlt : p < t
      · have hup' : ∀ i, i + 1 < j + 1 → i + 1 < l.length → l.getD i 0 < l.getD (i + 1) 0 := by
          intro i hi hi2
          by_cases hij : i + 1 = j
          · rw [hij, show i = j - 1 by omega, ← ht.out, ← hp.out]; exact hlt
          · exact hup.out i (by omega) hi2
        replace hup' := Lib.hid hup'
        have hd : decide (t ≤ p) = false := by simp; omega
        go_upto_region 4 with fail
        go_quiet (fail)
        rename_i nq
        clear iw
        go_wp2_with fail
        go_roundw
        case rel => exact ⟨j + 1, n + nq, by omega, by omega, by congr 1, hup'.out, by rw [hw.out, World.drewN_drewN]⟩
        case measure => (simp [intOf] <;> omega)
      · have hd : decide (t ≤ p) = true := by simp; omega
        go_upto_region 4 with fail
        go_quiet (fail)
        rename_i nq
        clear iw
        go_wp2_with fail
        go_ret
        refine ⟨false, rfl, ⟨(fun h => by cases h), fun h => absurd (h (j - 1) (by omega)) ?_⟩, n + nq, by rw [hw.out, World.drewN_drewN]⟩
        rw [Nat.sub_add_cancel (by omega), ← ht.out, ← hp.out]
        omega
    · replace hw := Lib.hid hw
      go_wp2_with fail
      go_ret
      exact ⟨true, rfl, ⟨fun _ i hi => hup.out i (by omega) hi, fun _ => rfl⟩, n, hw.out⟩

set_option maxRecDepth 100000 in
set_option maxHeartbeats 2000000 in
theorem same6_c (v u : Value) (l m : List Int) (w : World) (hv : SliceIs w 1 v l.length (iv l)) (hu : SliceIs w 1 u m.length (iv m)) (hl : l.length ≤ 1000000000) :
    Calls Try.prog 12 #[v, u] w (fun e w' => e = .returned (.bool (decide (l = m))) ∧ ∃ n, w' = w.drewN n) := by
  obtain ⟨a0, c0, rfl⟩ := slice_shape' hv
  obtain ⟨a1, c1, rfl⟩ := slice_shape' hu
  by_cases hlm : l.length = m.length
  · rw [← hlm] at hu ⊢
    go_enter Try.func12, Try.ntmps12
    replace hlm := Lib.hid hlm
    go_wp2
    go_loopw [5] (fun s5 wl => ∃ j n : Nat, j ≤ l.length ∧ s5 = .int .i64 j ∧ (∀ i, i < j → l.getD i 0 = m.getD i 0) ∧ wl = w.drewN n) (fun s5 _ => (l.length + 2 - intOf s5).toNat)
    case atStart => exact ⟨0, 0, by omega, rfl, fun i hi => by omega, rfl⟩
    case round =>
      obtain ⟨j, n, hj, rfl, hup, hw⟩ := hrel
      replace hup := Lib.hid hup
      by_cases hjn : j < l.length
      · obtain ⟨g, off, cap, hv1, hcap, hcm, hc⟩ := hv.at (by omega)
        obtain ⟨g', off', cap', hv1', hcap', hcm', hc'⟩ := hu.at (by omega)
        simp only [Value.slice.injEq] at hv1 hv1'
        obtain ⟨rfl, _, rfl⟩ := hv1
        obtain ⟨rfl, _, rfl⟩ := hv1'
        unfold maxLen at hcm hcm'
        have d1 : wr.cell? ⟨g, off + j, none⟩ = some (.int .i64 (l.getD j 0)) := by rw [hw]; exact hc j _ (iv_at hjn)
        have d2 : wr.cell? ⟨g', off' + j, none⟩ = some (.int .i64 (m.getD j 0)) := by rw [hw]; exact hc' j _ (iv_at (by rw [← hlm.out]; exact hjn))
        clear hc hc'
        obtain ⟨t, ht⟩ : ∃ t, t = l.getD j 0 := ⟨_, rfl⟩
        obtain ⟨p, hp⟩ : ∃ p, p = m.getD j 0 := ⟨_, rfl⟩
        rw [← ht] at d1
        rw [← hp] at d2
        have ix0 : (0 : Int) ≤ (j : Int) := by omega
        have ix1 : (j : Int) < l.length := by omega
        replace ht := Lib.hid ht
        replace hp := Lib.hid hp
        replace hw := Lib.hid hw
        by_cases hlt : t = p
        · have hup' : ∀ i, i < j + 1 → l.getD i 0 = m.getD i 0 := by
            intro i hi
            by_cases hij : i = j
            · rw [hij, ← ht.out, ← hp.out]; exact hlt
            · exact hup.out i (by omega)
          replace hup' := Lib.hid hup'
          have hd : (t != p) = false := by simp [hlt]
          replace hlt := Lib.hid hlt
          go_upto_region 6 with fail
          go_quiet (fail)
          rename_i nq
          go_wp2_with fail
          go_roundw
          case rel => exact ⟨j + 1, n + nq, by omega, by congr 1, hup'.out, by rw [hw.out, World.drewN_drewN]⟩
          case measure => (simp [intOf] <;> omega)
        · have hd : (t != p) = true := by simpa using hlt
          have hne : decide (l = m) = false := by
            apply decide_eq_false
            intro h
            apply hlt
            rw [ht.out, hp.out, h]
          replace hne := Lib.hid hne
          replace hlt := Lib.hid hlt
          go_upto_region 6 with fail
          go_quiet (fail)
          rename_i nq
          go_wp2_with fail
          go_ret
          exact ⟨by rw [hne.out]; rfl, n + nq, by rw [hw.out, World.drewN_drewN]⟩
      · obtain rfl : j = l.length := by omega
        replace hw := Lib.hid hw
        have hne : decide (l = m) = true := by
          apply decide_eq_true
          apply List.ext_getElem hlm.out
          intro i h1 h2
          have := hup.out i h1
          simpa [List.getD, List.getElem?_eq_getElem h1, List.getElem?_eq_getElem h2] using this
        replace hne := Lib.hid hne
        go_wp2_with fail
        go_ret
        exact ⟨by rw [hne.out]; rfl, n, hw.out⟩
  · have hd : ((l.length : Int) != (m.length : Int)) = true := by simp; omega
    have hne : decide (l = m) = false := decide_eq_false fun h => hlm (by rw [h])
    replace hne := Lib.hid hne
    replace hlm := Lib.hid hlm
    go_enter Try.func12, Try.ntmps12
    go_wp2
    go_ret
    exact ⟨by rw [hne.out]; rfl, 0, rfl⟩
end Go.Proofs.Ytakaolcajbhkiaa
