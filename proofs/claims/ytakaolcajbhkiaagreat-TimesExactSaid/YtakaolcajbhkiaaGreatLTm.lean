/- The laws of times: rising, same, num, works. The laws of times: works. -/
import Derived.Test.YtakaolcajbhkiaaGreatTmU
import Derived.BigQuiet
import Derived.Deep.QuietTactic
namespace Go.Proofs.YtakaolcajbhkiaaGreat
open Go.RowKit Go.SL Go.Fm
set_option linter.unusedVariables false
set_option linter.unusedSimpArgs false

theorem num6_c (e : Int) (w : World) : Calls Tryz.prog 19 #[.int .i64 e] w (fun en w' => en = .returned (.int .i64 e) ∧ w' = w) := by
  go_enter Tryz.func19, Tryz.ntmps19
  go_wp2
  go_ret
  exact ⟨rfl, rfl⟩
theorem num6_q (e : Int) (w : World) (n : Nat) : Calls Tryz.prog 19 #[.int .i64 e] (w.drewN n) (fun en w' => en = .returned (.int .i64 e) ∧ ∃ m, w' = w.drewN m) :=
  (num6_c e _).mono fun _ _ ⟨h, h'⟩ => ⟨h, n, h'⟩

def RisingPost (l : List Int) (w : World) (e : Ending) (w' : World) : Prop := ∃ b : Bool, e = .returned (.bool b) ∧ (b = true ↔ Rising l) ∧ ∃ n, w' = w.drewN n

set_option maxRecDepth 100000 in
set_option maxHeartbeats 2000000 in
theorem same6_c (v u : Value) (l m : List Int) (w : World) (hv : SliceIs w 1 v l.length (iv l)) (hu : SliceIs w 1 u m.length (iv m)) (hl : l.length ≤ 1000000000) :
    Calls Tryz.prog 25 #[v, u] w (fun e w' => e = .returned (.bool (decide (l = m))) ∧ ∃ n, w' = w.drewN n) := by
  obtain ⟨a0, c0, rfl⟩ := slice_shape' hv
  obtain ⟨a1, c1, rfl⟩ := slice_shape' hu
  by_cases hlm : l.length = m.length
  · rw [← hlm] at hu ⊢
    go_enter Tryz.func25, Tryz.ntmps25
    replace hlm := Lib.hid hlm
    go_wp2
    go_loopw [5] (fun s5 wl => ∃ j n : Nat, j ≤ l.length ∧ s5 = .int .i64 j ∧ (∀ i, i < j → l.getD i 0 = m.getD i 0) ∧ wl = w.drewN n) (fun s5 _ => (l.length + 2 - intOf s5).toNat)
    case atStart => exact ⟨0, 0, by omega, rfl, fun i hi => by omega, rfl⟩
    case round =>
      obtain ⟨j, n, hj, rfl, hup, hw⟩ := hrel
      replace hup := Lib.hid hup
      by_cases hjn : j < l.length
      · obtain ⟨g, off, cap, hv1, hcap, hcm, hc⟩ := hv.at (by omega)
        obtain ⟨g', off', cap', hv1', hcap', hcm', hc'⟩ := hu.at (by omega)
        simp only [Value.slice.injEq] at hv1 hv1'
        obtain ⟨rfl, _, rfl⟩ := hv1
        obtain ⟨rfl, _, rfl⟩ := hv1'
        unfold maxLen at hcm hcm'
        have d1 : wr.cell? ⟨g, off + j, none⟩ = some (.int .i64 (l.getD j 0)) := by rw [hw]; exact hc j _ (iv_at hjn)
        have d2 : wr.cell? ⟨g', off' + j, none⟩ = some (.int .i64 (m.getD j 0)) := by rw [hw]; exact hc' j _ (iv_at (by rw [← hlm.out]; exact hjn))
        clear hc hc'
        obtain ⟨t, ht⟩ : ∃ t, t = l.getD j 0 := ⟨_, rfl⟩
        obtain ⟨p, hp⟩ : ∃ p, p = m.getD j 0 := ⟨_, rfl⟩
        rw [← ht] at d1
        rw [← hp] at d2
        have ix0 : (0 : Int) ≤ (j : Int) := by omega
        have ix1 : (j : Int) < l.length := by omega
        replace ht := Lib.hid ht
        replace hp := Lib.hid hp
        replace hw := Lib.hid hw
        by_cases hlt : t = p
        · have hup' : ∀ i, i < j + 1 → l.getD i 0 = m.getD i 0 := by
            intro i hi
            by_cases hij : i = j
            · rw [hij, ← ht.out, ← hp.out]; exact hlt
            · exact hup.out i (by omega)
          replace hup' := Lib.hid hup'
          have hd : (t != p) = false := by simp [hlt]
          replace hlt := Lib.hid hlt
          go_upto_region 6 with fail
          go_quiet (fail)
          rename_i nq
          go_wp2_with fail
          go_roundw
          case rel => exact ⟨j + 1, n + nq, by omega, by congr 1, hup'.out, by rw [hw.out, World.drewN_drewN]⟩
          case measure => (simp [intOf] <;> omega)
        · have hd : (t != p) = true := by simpa using hlt
          have hne : decide (l = m) = false := by
            apply decide_eq_false
            intro h
            apply hlt
            rw [ht.out, hp.out, h]
          replace hne := Lib.hid hne
          replace hlt := Lib.hid hlt
          go_upto_region 6 with fail
          go_quiet (fail)
          rename_i nq
          go_wp2_with fail
          go_ret
          exact ⟨by rw [hne.out]; rfl, n + nq, by rw [hw.out, World.drewN_drewN]⟩
      · obtain rfl : j = l.length := by omega
        replace hw := Lib.hid hw
        have hne : decide (l = m) = true := by
          apply decide_eq_true
          apply List.ext_getElem hlm.out
          intro i h1 h2
          have := hup.out i h1
          simpa [List.getD, List.getElem?_eq_getElem h1, List.getElem?_eq_getElem h2] using this
        replace hne := Lib.hid hne
        go_wp2_with fail
        go_ret
        exact ⟨by rw [hne.out]; rfl, n, hw.out⟩
  · have hd : ((l.length : Int) != (m.length : Int)) = true := by simp; omega
    have hne : decide (l = m) = false := decide_eq_false fun h => hlm (by rw [h])
    replace hne := Lib.hid hne
    replace hlm := Lib.hid hlm
    go_enter Tryz.func25, Tryz.ntmps25
    go_wp2
    go_ret
    exact ⟨by rw [hne.out]; rfl, 0, rfl⟩
end Go.Proofs.YtakaolcajbhkiaaGreat

namespace Go.SL
open Go.RowKit
/-- A literal's row is seen by who holds its block. -/
theorem sees_lit {g s n : Nat} {cs : Array Value} {E : TypeId} {fz : Nat × Nat} {F : List HProp} (hs : cs.size = n * s) (hm : n ≤ maxLen) : Sees (pts g (.cells cs E fz) :: F) s (.slice (some ⟨g, 0, none⟩) n n) n cs.toList := by
  intro w h
  refine ⟨by simpa using hs, .inr ⟨⟨g, 0, none⟩, n, rfl, Nat.le_refl n, hm, fun j x hj => ?_⟩⟩
  rw [add_plain', Nat.zero_add, h.cell]
  simpa using hj
end Go.SL
namespace Go.Proofs.YtakaolcajbhkiaaGreat
open Go.RowKit Go.SL Go.Fm
set_option linter.unusedVariables false
set_option linter.unusedSimpArgs false

theorem rising4 : Rising [10, 20, 30, 40] := by
  intro i hi
  have : i = 0 ∨ i = 1 ∨ i = 2 := by simp at hi; omega
  rcases this with rfl | rfl | rfl <;> decide
theorem i64_4 : I64 [10, 20, 30, 40] := by
  intro t ht
  simp at ht
  omega
theorem zz10 : zigzag (wrap64 ((dAt [10, 20, 30, 40] 1 : Int) - dAt [10, 20, 30, 40] 0)) = 20 := by
  have h1 : dAt [10, 20, 30, 40] 1 = 10 := rfl
  have h0 : dAt [10, 20, 30, 40] 0 = 0 := rfl
  rw [h1, h0, wrap64_id (by decide)]
  rfl
theorem zz0 (i : Nat) (h : i = 2 ∨ i = 3) : zigzag (wrap64 ((dAt [10, 20, 30, 40] i : Int) - dAt [10, 20, 30, 40] (i - 1))) = 0 := by
  have h1 : dAt [10, 20, 30, 40] 1 = 10 := rfl
  have h2 : dAt [10, 20, 30, 40] 2 = 10 := rfl
  have h3 : dAt [10, 20, 30, 40] 3 = 10 := rfl
  rcases h with rfl | rfl
  · show zigzag (wrap64 ((dAt [10, 20, 30, 40] 2 : Int) - dAt [10, 20, 30, 40] 1)) = 0
    rw [h2, h1, wrap64_id (by decide)]
    rfl
  · show zigzag (wrap64 ((dAt [10, 20, 30, 40] 3 : Int) - dAt [10, 20, 30, 40] 2)) = 0
    rw [h3, h2, wrap64_id (by decide)]
    rfl
theorem works6_bits : tTo [10, 20, 30, 40] 4 = bitsOf 10 64 ++ ([true, false] ++ bitsOf 19 7) ++ [false] ++ [false] := by
  rw [tTo_succ, tTo_succ, tTo_succ, tTo_succ, tTo_zero, List.nil_append]
  have e0 : tAt [10, 20, 30, 40] 0 = bitsOf 10 64 := rfl
  have e1 : tAt [10, 20, 30, 40] (0 + 1) = [true, false] ++ bitsOf 19 7 := by
    unfold tAt
    rw [if_neg (by decide)]
    show tbits (zigzag (wrap64 ((dAt [10, 20, 30, 40] 1 : Int) - dAt [10, 20, 30, 40] 0))) = _
    rw [zz10]
    rfl
  have e2 : tAt [10, 20, 30, 40] (0 + 1 + 1) = [false] := by
    unfold tAt
    rw [if_neg (by decide), zz0 (0 + 1 + 1) (.inl rfl)]
    rfl
  have e3 : tAt [10, 20, 30, 40] (0 + 1 + 1 + 1) = [false] := by
    unfold tAt
    rw [if_neg (by decide), zz0 (0 + 1 + 1 + 1) (.inr rfl)]
    rfl
  rw [e0, e1, e2, e3]
theorem works6_bytes : pack (tTo [10, 20, 30, 40] 4) = [0, 0, 0, 0, 0, 0, 0, 10, 137, 128] := by
  rw [works6_bits]
  decide +kernel

set_option maxRecDepth 100000 in
set_option maxHeartbeats 4000000 in
theorem works6_c (w : World) (F : List HProp) (H : Holds w F) : Calls Tryz.prog 12 #[] w (Ret w (.bool true) F) := by
  have HL := H.alloc (.cells #[.int .i64 10, .int .i64 20, .int .i64 30, .int .i64 40] 2)
  have hP := tPack_ok (.slice (some ⟨w.heap.size, 0, none⟩) 4 4) [10, 20, 30, 40] _ _ HL (sees_lit rfl (by decide)) (by decide) i64_4 rising4
  rw [show ([10, 20, 30, 40] : List Int).length = 4 from rfl, works6_bytes] at hP
  have hG : tGet ⟨unpack [0, 0, 0, 0, 0, 0, 0, 10, 137, 128], 0⟩ 4 = some [10, 20, 30, 40] := by
    have := tGet_back [10, 20, 30, 40] i64_4 rising4
    rwa [show ([10, 20, 30, 40] : List Int).length = 4 from rfl, works6_bytes] at this
  go_enter Tryz.func12, Tryz.ntmps12
  go_wp2_with (go_at_call 14; refine hP.mono ?_; rintro e w1 ⟨v1, rfl, H1, S1⟩)
  have hU := tUnpack_c v1 [0, 0, 0, 0, 0, 0, 0, 10, 137, 128] 4 w1 _ H1 H1.own_is (by decide) (by decide) (by decide)
  rw [hG] at hU
  replace hG := Lib.hid hG
  refine hU.mono ?_
  rintro e w2 ⟨v2, rfl, H2, S2⟩
  obtain ⟨g, cap, rest, hv9, hcap9, hcm9, hl9, hl9', H9⟩ := H2.swap.own_block (by decide)
  have b8 := H9.cell 8
  simp [bv] at b8
  subst hv9
  go_wp2_with (go_at_call 19; refine (num6_c _ _).mono ?_; rintro e w5 ⟨rfl, hw5⟩; obtain rfl := hw5.symm)
  refine (same6_c v2 _ [10, 20, 30, 40] [10, 20, 30, 40] _ (H2.alloc' (.cells #[.int .i64 10, .int .i64 20, .int .i64 30, .int .i64 40] 2)).own_is (slice_new w2 #[.int .i64 10, .int .i64 20, .int .i64 30, .int .i64 40] 2 (0, 0) 1 4 rfl (by decide)) (by decide)).mono ?_
  rintro e w6 ⟨rfl, n, rfl⟩
  rw [decide_eq_true (rfl : ([10, 20, 30, 40] : List Int) = [10, 20, 30, 40])]
  go_wp2_with fail
  go_ret
  exact ⟨rfl, ((H2.tail.tail.tail).alloc' _).drewN _, ((((Str.refl w).alloc _).trans S1).trans S2).alloc _ |>.drewN _⟩
end Go.Proofs.YtakaolcajbhkiaaGreat
