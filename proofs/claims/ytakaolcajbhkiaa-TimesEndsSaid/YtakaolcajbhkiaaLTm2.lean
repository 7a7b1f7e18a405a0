/- The laws of times: works. -/
import Derived.Test.YtakaolcajbhkiaaLTm
namespace Go.SL
open Go.RowKit
/-- A literal's row is seen by who holds its block. -/
theorem sees_lit {g s n : Nat} {cs : Array Value} {E : TypeId} {fz : Nat × Nat} {F : List HProp} (hs : cs.size = n * s) (hm : n ≤ maxLen) : Sees (pts g (.cells cs E fz) :: F) s (.slice (some ⟨g, 0, none⟩) n n) n cs.toList := by
  intro w h
  refine ⟨by simpa using hs, .inr ⟨⟨g, 0, none⟩, n, rfl, Nat.le_refl n, hm, fun j x hj => ?_⟩⟩
  rw [add_plain', Nat.zero_add, h.cell]
  simpa using hj
end Go.SL
namespace Go.Proofs.Ytakaolcajbhkiaa
open Go.RowKit Go.SL Go.Fm
set_option linter.unusedVariables false
set_option linter.unusedSimpArgs false

theorem rising4 : Rising [10, 20, 30, 40] := by
  intro i hi
  have : i = 0 ∨ i = 1 ∨ i = 2 := by simp at hi; omega
  rcases this with rfl | rfl | rfl <;> decide
theorem i64_4 : I64 [10, 20, 30, 40] := by
  intro t ht
  simp at ht
  omega
theorem zz10 : zigzag (wrap64 ((dAt [10, 20, 30, 40] 1 : Int) - dAt [10, 20, 30, 40] 0)) = 20 := by
  have h1 : dAt [10, 20, 30, 40] 1 = 10 := rfl
  have h0 : dAt [10, 20, 30, 40] 0 = 0 := rfl
  rw [h1, h0, wrap64_id (by decide)]
  rfl
theorem zz0 (i : Nat) (h : i = 2 ∨ i = 3) : zigzag (wrap64 ((dAt [10, 20, 30, 40] i : Int) - dAt [10, 20, 30, 40] (i - 1))) = 0 := by
  have h1 : dAt [10, 20, 30, 40] 1 = 10 := rfl
  have h2 : dAt [10, 20, 30, 40] 2 = 10 := rfl
  have h3 : dAt [10, 20, 30, 40] 3 = 10 := rfl
  rcases h with rfl | rfl
  · show zigzag (wrap64 ((dAt [10, 20, 30, 40] 2 : Int) - dAt [10, 20, 30, 40] 1)) = 0
    rw [h2, h1, wrap64_id (by decide)]
    rfl
  · show zigzag (wrap64 ((dAt [10, 20, 30, 40] 3 : Int) - dAt [10, 20, 30, 40] 2)) = 0
    rw [h3, h2, wrap64_id (by decide)]
    rfl
theorem works6_bits : tTo [10, 20, 30, 40] 4 = bitsOf 10 64 ++ ([true, false] ++ bitsOf 19 7) ++ [false] ++ [false] := by
  rw [tTo_succ, tTo_succ, tTo_succ, tTo_succ, tTo_zero, List.nil_append]
  have e0 : tAt [10, 20, 30, 40] 0 = bitsOf 10 64 := rfl
  have e1 : tAt [10, 20, 30, 40] (0 + 1) = [true, false] ++ bitsOf 19 7 := by
    unfold tAt
    rw [if_neg (by decide)]
    show tbits (zigzag (wrap64 ((dAt [10, 20, 30, 40] 1 : Int) - dAt [10, 20, 30, 40] 0))) = _
    rw [zz10]
    rfl
  have e2 : tAt [10, 20, 30, 40] (0 + 1 + 1) = [false] := by
    unfold tAt
    rw [if_neg (by decide), zz0 (0 + 1 + 1) (.inl rfl)]
    rfl
  have e3 : tAt [10, 20, 30, 40] (0 + 1 + 1 + 1) = [false] := by
    unfold tAt
    rw [if_neg (by decide), zz0 (0 + 1 + 1 + 1) (.inr rfl)]
    rfl
  rw [e0, e1, e2, e3]
theorem works6_bytes : pack (tTo [10, 20, 30, 40] 4) = [0, 0, 0, 0, 0, 0, 0, 10, 137, 128] := by
  rw [works6_bits]
  decide +kernel

set_option maxRecDepth 100000 in
set_option maxHeartbeats 4000000 in
theorem works6_c (w : World) (F : List HProp) (H : Holds w F) : Calls Try.prog 13 #[] w (Ret w (.bool true) F) := by
  have HL := H.alloc (.cells #[.int .i64 10, .int .i64 20, .int .i64 30, .int .i64 40] 2)
  have hP := tPack_ok (.slice (some ⟨w.heap.size, 0, none⟩) 4 4) [10, 20, 30, 40] _ _ HL (sees_lit rfl (by decide)) (by decide) i64_4 rising4
  rw [show ([10, 20, 30, 40] : List Int).length = 4 from rfl, works6_bytes] at hP
  have hG : tGet ⟨unpack [0, 0, 0, 0, 0, 0, 0, 10, 137, 128], 0⟩ 4 = some [10, 20, 30, 40] := by
    have := tGet_back [10, 20, 30, 40] i64_4 rising4
    rwa [show ([10, 20, 30, 40] : List Int).length = 4 from rfl, works6_bytes] at this
  go_enter Try.func13, Try.ntmps13
  go_wp2_with (go_at_call 8; refine hP.mono ?_; rintro e w1 ⟨v1, rfl, H1, S1⟩)
  have hU := tUnpack_c v1 [0, 0, 0, 0, 0, 0, 0, 10, 137, 128] 4 w1 _ H1 H1.own_is (by decide) (by decide) (by decide)
  rw [hG] at hU
  replace hG := Lib.hid hG
  refine hU.mono ?_
  rintro e w2 ⟨v2, rfl, H2, S2⟩
  obtain ⟨g, cap, rest, hv9, hcap9, hcm9, hl9, hl9', H9⟩ := H2.swap.own_block (by decide)
  have b8 := H9.cell 8
  simp [bv] at b8
  subst hv9
  go_wp2_with (go_at_call 10; refine (num6_c _ _).mono ?_; rintro e w5 ⟨rfl, hw5⟩; obtain rfl := hw5.symm)
  refine (same6_c v2 _ [10, 20, 30, 40] [10, 20, 30, 40] _ (H2.alloc' (.cells #[.int .i64 10, .int .i64 20, .int .i64 30, .int .i64 40] 2)).own_is (slice_new w2 #[.int .i64 10, .int .i64 20, .int .i64 30, .int .i64 40] 2 (0, 0) 1 4 rfl (by decide)) (by decide)).mono ?_
  rintro e w6 ⟨rfl, n, rfl⟩
  rw [decide_eq_true (rfl : ([10, 20, 30, 40] : List Int) = [10, 20, 30, 40])]
  go_wp2_with fail
  go_ret
  exact ⟨rfl, ((H2.tail.tail.tail).alloc' _).drewN _, ((((Str.refl w).alloc _).trans S1).trans S2).alloc _ |>.drewN _⟩
end Go.Proofs.Ytakaolcajbhkiaa
