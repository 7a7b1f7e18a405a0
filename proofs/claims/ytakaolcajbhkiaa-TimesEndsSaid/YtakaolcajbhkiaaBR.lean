/- The reader of bits: peek, Left, refuse. -/
import Derived.Test.YtakaolcajbhkiaaBW3
import Derived.Test.YtakaolcajbhkiaaBits3
namespace Go.Proofs.Ytakaolcajbhkiaa
set_option linter.unusedVariables false
set_option linter.unusedSimpArgs false
open Go.RowKit Go.SL Go.Fm

theorem bval_take_add (l : List Bool) (a k : Nat) (h : a + k ≤ l.length) : bval (l.take (a + k)) = bval (l.take a) * 2 ^ k + bval ((l.drop a).take k) := by
  rw [List.take_add, bval_append, List.length_take, List.length_drop]
  congr 3
  omega

theorem bval_take_lt (l : List Bool) (a : Nat) : bval (l.take a) < 2 ^ a := Nat.lt_of_lt_of_le (bval_lt _) (Nat.pow_le_pow_right (by decide) (List.length_take_le _ _))

/-- What the program reckons for the next bits. -/
theorem peek_num (X Y k a : Nat) (hX : X < 2 ^ a) (hak : a + k ≤ 64) (hY : Y < 256) (hk : k ≤ 8) :
    bits .or .u64 (IntKind.u64.wrap ((X : Int) * 2 ^ k)) (bits .and .u64 (Y : Int) (IntKind.u64.wrap (IntKind.u64.wrap (2 ^ k) - 1))) = ((X * 2 ^ k + Y % 2 ^ k : Nat) : Int) := by
  rw [unary_num k (by omega)]
  have hw : ∀ n : Int, 0 ≤ n → n < 2 ^ 64 → IntKind.u64.wrap n = n := fun n a b => IntWalk.u64_in n (by omega)
  have hp : 0 < 2 ^ k := Nat.two_pow_pos k
  have e1 : ((2 ^ k - 1 : Nat) : Int) = 2 ^ k - 1 := by rw [Int.natCast_sub hp]; simp
  rw [e1, bits_mask .u64 64 (by decide) hw k (by omega) _ (by omega) (by omega)]
  have h1 : X * 2 ^ k + 2 ^ k ≤ 2 ^ (a + k) := by
    rw [Nat.pow_add, ← Nat.succ_mul]
    exact Nat.mul_le_mul_right _ hX
  have h2 : 2 ^ (a + k) ≤ 2 ^ 64 := Nat.pow_le_pow_right (by decide) hak
  have h64 : (2 : Nat) ^ 64 = 18446744073709551616 := by decide
  have e2 : (X : Int) * 2 ^ k = ((X * 2 ^ k : Nat) : Int) := by simp
  have e3 : (Y : Int) % 2 ^ k = ((Y % 2 ^ k : Nat) : Int) := by simp
  have hm : Y % 2 ^ k < 2 ^ k := Nat.mod_lt _ hp
  rw [e2, e3, IntWalk.u64_in _ (by omega)]
  have hd : ((X * 2 ^ k : Nat) : Int) % 2 ^ k = 0 := by
    simp
  have hlt : ((Y % 2 ^ k : Nat) : Int) < 2 ^ k := by
    have : ((2 ^ k : Nat) : Int) = 2 ^ k := by simp
    rw [← this]; omega
  rw [bits_join .u64 64 (by decide) hw k _ _ (by omega) hd (by omega) (by omega) hlt (by omega)]
  omega

theorem peek_shr (Y e : Nat) (h : Y < 256) : IntKind.u64.wrap ((Y : Int) / 2 ^ e) = ((Y / 2 ^ e : Nat) : Int) := by
  have e1 : (Y : Int) / 2 ^ e = ((Y / 2 ^ e : Nat) : Int) := by simp
  have h2 : Y / 2 ^ e ≤ Y := Nat.div_le_self _ _
  rw [e1]
  generalize Y / 2 ^ e = z at h2
  rw [IntWalk.u64_in _ (by omega)]

/-- The next chunk. -/
theorem peek_next {B : List Nat} {p a k X Y : Nat} (hi : (p + a) / 8 < B.length) (hk : (p + a) % 8 + k ≤ 8) (hX : bval (((unpack B).drop p).take a) = X) (hY : B[(p + a) / 8] = Y) :
    bval (((unpack B).drop p).take (a + k)) = X * 2 ^ k + Y / 2 ^ (8 - (p + a) % 8 - k) % 2 ^ k := by
  rw [bval_take_add _ _ _ (by rw [List.length_drop, length_unpack]; omega), hX, List.drop_drop, unpack_at B (p + a) k hi hk, hY]

set_option maxRecDepth 100000 in
set_option maxHeartbeats 1000000 in
theorem peek_c (b p n : Nat) (B : List Nat) (v : Value) (q bad : Int) (w : World) (F : List HProp) (H : Holds w (pts b (.cells #[v, .int .i64 q, .int .i64 bad] 61 (0, 0)) :: own 5 1 v B.length (bv B) :: F))
    (hB : ∀ x ∈ B, x < 256) (hpn : p + n ≤ 8 * B.length) (hn : n ≤ 64) (hBl : B.length ≤ 1000000000000) :
    Calls Try.prog 28 #[.pointer (some ⟨b, 0, none⟩), .int .i64 p, .int .i64 n] w (fun e w' => e = .returned (.int .u64 (bval (((unpack B).drop p).take n) : Nat)) ∧ ∃ m, w' = w.drewN m) := by
  by_cases hn0 : n = 0
  · subst hn0
    go_enter Try.func28, Try.ntmps28
    go_wp2
    refine wp_loop_rounds 1 ?_
    rw [rounds_succ]
    go_wp2
    go_ret
    exact ⟨rfl, 0, rfl⟩
  obtain ⟨g, cap, rest, rfl, hcap, hcm, hlen, hlen2, H1⟩ := H.swap.own_block (by omega)
  have c0 := H1.swap.cell 0
  simp at c0
  have hcell : ∀ i (hi : i < B.length), w.cell? ⟨g, i, none⟩ = some (.int .u8 (B[i] : Nat)) := by
    intro i hi
    rw [H1.cell i]
    simp only [List.getElem?_toArray]
    rw [List.getElem?_append_left (by simpa using hi)]
    simp [bv, hi]
  have hcell := Lib.hid hcell
  go_enter Try.func28, Try.ntmps28
  go_wp2
  go_loopw [1, 2, 7, 8, 9] (fun s1 s2 s7 _ _ wr => ∃ (a k m : Nat), a + k = n ∧ s1 = .int .i64 (p + a : Nat) ∧ s2 = .int .i64 k ∧ s7 = .int .u64 (bval (((unpack B).drop p).take a) : Nat) ∧ wr = w.drewN m) (fun _ s2 _ _ _ _ => (intOf s2).toNat)
  case atStart => exact ⟨0, n, 0, by omega, rfl, rfl, rfl, rfl⟩
  case round =>
    obtain ⟨a, k, m, hak, rfl, rfl, rfl, rfl⟩ := hrel
    have HA := Lib.hid hak
    have hk64 : k ≤ 64 := by omega
    by_cases hk0 : 0 < k
    · have hi : (p + a) / 8 < B.length := by omega
      have ci := hcell.out _ hi
      have hb256 : B[(p + a) / 8] < 256 := hB _ (List.getElem_mem hi)
      have hXlt := bval_take_lt ((unpack B).drop p) a
      clear hak
      have hX := Lib.hid hXlt
      clear hXlt
      generalize hgx : bval (((unpack B).drop p).take a) = X at *
      generalize hgb : B[(p + a) / 8] = Y at *
      have hgx := Lib.hid hgx
      have hgb := Lib.hid hgb
      by_cases hk8 : (k : Int) < 8 - ((p + a : Nat) : Int) % 8
      all_goals
        go_upto_region 5 with fail
        go_quiet (fail)
        rename_i nq
        go_wp2
        go_roundw
        case rel =>
          first
            | (refine ⟨a + k, 0, m + nq, by have := HA.out; omega, by congr 1; omega, rfl, ?_, rfl⟩
               rw [peek_next hi (by omega) hgx.out hgb.out, peek_shr _ _ hb256]
               have h2 : Y / 2 ^ (8 - (p + a) % 8 - k) ≤ Y := Nat.div_le_self _ _
               rw [peek_num X _ k a hX.out (by have := HA.out; omega) (by omega) (by omega)])
            | (refine ⟨a + (8 - (p + a) % 8), k - (8 - (p + a) % 8), m + nq, by have := HA.out; omega, by congr 1; omega, by congr 1; omega, ?_, rfl⟩
               rw [peek_next (k := 8 - (p + a) % 8) hi (by omega) hgx.out hgb.out, Nat.sub_self, Nat.pow_zero, Nat.div_one]
               rw [peek_num X Y (8 - (p + a) % 8) a hX.out (by have := HA.out; omega) hb256 (by omega)])
        case measure => simp [intOf]; omega
    · obtain rfl : k = 0 := by omega
      go_wp2
      go_ret
      have e := HA.out
      rw [Nat.add_zero] at e
      subst e
      exact ⟨rfl, m, rfl⟩
end Go.Proofs.Ytakaolcajbhkiaa
