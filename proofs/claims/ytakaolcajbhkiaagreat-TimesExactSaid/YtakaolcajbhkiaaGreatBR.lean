/- The reader of bits: peek, Left, refuse. The reader of bits: Left, refuse, Bits, Bit, End. The reader of bits: Unary. The reader of bits: Var, Zig; From. The reader of bits: Zig; From. -/
import Derived.Test.YtakaolcajbhkiaaGreatBW3
import Derived.Test.YtakaolcajbhkiaaGreatBits3
import Derived.Laws.DeepNot64
namespace Go.Proofs.YtakaolcajbhkiaaGreat
set_option linter.unusedVariables false
set_option linter.unusedSimpArgs false
open Go.RowKit Go.SL Go.Fm

theorem bval_take_add (l : List Bool) (a k : Nat) (h : a + k ≤ l.length) : bval (l.take (a + k)) = bval (l.take a) * 2 ^ k + bval ((l.drop a).take k) := by
  rw [List.take_add, bval_append, List.length_take, List.length_drop]
  congr 3
  omega

theorem bval_take_lt (l : List Bool) (a : Nat) : bval (l.take a) < 2 ^ a := Nat.lt_of_lt_of_le (bval_lt _) (Nat.pow_le_pow_right (by decide) (List.length_take_le _ _))

/-- What the program reckons for the next bits. -/
theorem peek_num (X Y k a : Nat) (hX : X < 2 ^ a) (hak : a + k ≤ 64) (hY : Y < 256) (hk : k ≤ 8) :
    bits .or .u64 (IntKind.u64.wrap ((X : Int) * 2 ^ k)) (bits .and .u64 (Y : Int) (IntKind.u64.wrap (IntKind.u64.wrap (2 ^ k) - 1))) = ((X * 2 ^ k + Y % 2 ^ k : Nat) : Int) := by
  rw [unary_num k (by omega)]
  have hw : ∀ n : Int, 0 ≤ n → n < 2 ^ 64 → IntKind.u64.wrap n = n := fun n a b => IntWalk.u64_in n (by omega)
  have hp : 0 < 2 ^ k := Nat.two_pow_pos k
  have e1 : ((2 ^ k - 1 : Nat) : Int) = 2 ^ k - 1 := by rw [Int.natCast_sub hp]; simp
  rw [e1, bits_mask .u64 64 (by decide) hw k (by omega) _ (by omega) (by omega)]
  have h1 : X * 2 ^ k + 2 ^ k ≤ 2 ^ (a + k) := by
    rw [Nat.pow_add, ← Nat.succ_mul]
    exact Nat.mul_le_mul_right _ hX
  have h2 : 2 ^ (a + k) ≤ 2 ^ 64 := Nat.pow_le_pow_right (by decide) hak
  have h64 : (2 : Nat) ^ 64 = 18446744073709551616 := by decide
  have e2 : (X : Int) * 2 ^ k = ((X * 2 ^ k : Nat) : Int) := by simp
  have e3 : (Y : Int) % 2 ^ k = ((Y % 2 ^ k : Nat) : Int) := by simp
  have hm : Y % 2 ^ k < 2 ^ k := Nat.mod_lt _ hp
  rw [e2, e3, IntWalk.u64_in _ (by omega)]
  have hd : ((X * 2 ^ k : Nat) : Int) % 2 ^ k = 0 := by
    simp
  have hlt : ((Y % 2 ^ k : Nat) : Int) < 2 ^ k := by
    have : ((2 ^ k : Nat) : Int) = 2 ^ k := by simp
    rw [← this]; omega
  rw [bits_join .u64 64 (by decide) hw k _ _ (by omega) hd (by omega) (by omega) hlt (by omega)]
  omega

theorem peek_shr (Y e : Nat) (h : Y < 256) : IntKind.u64.wrap ((Y : Int) / 2 ^ e) = ((Y / 2 ^ e : Nat) : Int) := by
  have e1 : (Y : Int) / 2 ^ e = ((Y / 2 ^ e : Nat) : Int) := by simp
  have h2 : Y / 2 ^ e ≤ Y := Nat.div_le_self _ _
  rw [e1]
  generalize Y / 2 ^ e = z at h2
  rw [IntWalk.u64_in _ (by omega)]

/-- The next chunk. -/
theorem peek_next {B : List Nat} {p a k X Y : Nat} (hi : (p + a) / 8 < B.length) (hk : (p + a) % 8 + k ≤ 8) (hX : bval (((unpack B).drop p).take a) = X) (hY : B[(p + a) / 8] = Y) :
    bval (((unpack B).drop p).take (a + k)) = X * 2 ^ k + Y / 2 ^ (8 - (p + a) % 8 - k) % 2 ^ k := by
  rw [bval_take_add _ _ _ (by rw [List.length_drop, length_unpack]; omega), hX, List.drop_drop, unpack_at B (p + a) k hi hk, hY]

set_option maxRecDepth 100000 in
set_option maxHeartbeats 1000000 in
theorem peek_c (b p n : Nat) (B : List Nat) (v : Value) (q bad : Int) (w : World) (F : List HProp) (H : Holds w (pts b (.cells #[v, .int .i64 q, .int .i64 bad] 112 (0, 0)) :: own 5 1 v B.length (bv B) :: F))
    (hB : ∀ x ∈ B, x < 256) (hpn : p + n ≤ 8 * B.length) (hn : n ≤ 64) (hBl : B.length ≤ 1000000000000) :
    Calls Tryz.prog 88 #[.pointer (some ⟨b, 0, none⟩), .int .i64 p, .int .i64 n] w (fun e w' => e = .returned (.int .u64 (bval (((unpack B).drop p).take n) : Nat)) ∧ ∃ m, w' = w.drewN m) := by
  by_cases hn0 : n = 0
  · subst hn0
    go_enter Tryz.func88, Tryz.ntmps88
    go_wp2
    refine wp_loop_rounds 1 ?_
    rw [rounds_succ]
    go_wp2
    go_ret
    exact ⟨rfl, 0, rfl⟩
  obtain ⟨g, cap, rest, rfl, hcap, hcm, hlen, hlen2, H1⟩ := H.swap.own_block (by omega)
  have c0 := H1.swap.cell 0
  simp at c0
  have hcell : ∀ i (hi : i < B.length), w.cell? ⟨g, i, none⟩ = some (.int .u8 (B[i] : Nat)) := by
    intro i hi
    rw [H1.cell i]
    simp only [List.getElem?_toArray]
    rw [List.getElem?_append_left (by simpa using hi)]
    simp [bv, hi]
  have hcell := Lib.hid hcell
  go_enter Tryz.func88, Tryz.ntmps88
  go_wp2
  go_loopw [1, 2, 7, 8, 9] (fun s1 s2 s7 _ _ wr => ∃ (a k m : Nat), a + k = n ∧ s1 = .int .i64 (p + a : Nat) ∧ s2 = .int .i64 k ∧ s7 = .int .u64 (bval (((unpack B).drop p).take a) : Nat) ∧ wr = w.drewN m) (fun _ s2 _ _ _ _ => (intOf s2).toNat)
  case atStart => exact ⟨0, n, 0, by omega, rfl, rfl, rfl, rfl⟩
  case round =>
    obtain ⟨a, k, m, hak, rfl, rfl, rfl, rfl⟩ := hrel
    have HA := Lib.hid hak
    have hk64 : k ≤ 64 := by omega
    by_cases hk0 : 0 < k
    · have hi : (p + a) / 8 < B.length := by omega
      have ci := hcell.out _ hi
      have hb256 : B[(p + a) / 8] < 256 := hB _ (List.getElem_mem hi)
      have hXlt := bval_take_lt ((unpack B).drop p) a
      clear hak
      have hX := Lib.hid hXlt
      clear hXlt
      generalize hgx : bval (((unpack B).drop p).take a) = X at *
      generalize hgb : B[(p + a) / 8] = Y at *
      have hgx := Lib.hid hgx
      have hgb := Lib.hid hgb
      by_cases hk8 : (k : Int) < 8 - ((p + a : Nat) : Int) % 8
      all_goals
        go_upto_region 5 with fail
        go_quiet (fail)
        rename_i nq
        go_wp2
        go_roundw
        case rel =>
          first
            | (refine ⟨a + k, 0, m + nq, by have := HA.out; omega, by congr 1; omega, rfl, ?_, rfl⟩
               rw [peek_next hi (by omega) hgx.out hgb.out, peek_shr _ _ hb256]
               have h2 : Y / 2 ^ (8 - (p + a) % 8 - k) ≤ Y := Nat.div_le_self _ _
               rw [peek_num X _ k a hX.out (by have := HA.out; omega) (by omega) (by omega)])
            | (refine ⟨a + (8 - (p + a) % 8), k - (8 - (p + a) % 8), m + nq, by have := HA.out; omega, by congr 1; omega, by congr 1; omega, ?_, rfl⟩
               rw [peek_next (k := 8 - (p + a) % 8) hi (by omega) hgx.out hgb.out, Nat.sub_self, Nat.pow_zero, Nat.div_one]
               rw [peek_num X Y (8 - (p + a) % 8) a hX.out (by have := HA.out; omega) hb256 (by omega)])
        case measure => simp [intOf]; omega
    · obtain rfl : k = 0 := by omega
      go_wp2
      go_ret
      have e := HA.out
      rw [Nat.add_zero] at e
      subst e
      exact ⟨rfl, m, rfl⟩
end Go.Proofs.YtakaolcajbhkiaaGreat

namespace Go.Proofs.YtakaolcajbhkiaaGreat
set_option linter.unusedVariables false
set_option linter.unusedSimpArgs false
open Go.RowKit Go.SL Go.Fm

/-- A reader's struct by its state. -/
def rS (b : Nat) (s : Rs) : HProp := fun h => ∃ (x : Value × List Nat × Nat), (x.2.2 ≤ 8 * x.2.1.length ∧ x.2.1.length ≤ 1000000000000 ∧ (∀ y ∈ x.2.1, y < 256) ∧ s.L = (unpack x.2.1).drop x.2.2) ∧
  sep (pts b (.cells #[x.1, .int .i64 (x.2.2 : Nat), .int .i64 (s.bad : Nat)] 112 (0, 0))) (own 5 1 x.1 x.2.1.length (bv x.2.1)) h
theorem rS_open {b : Nat} {s : Rs} {w : World} {F : List HProp} (h : Holds w (rS b s :: F)) :
    ∃ (v : Value) (B : List Nat) (p : Nat), p ≤ 8 * B.length ∧ B.length ≤ 1000000000000 ∧ (∀ y ∈ B, y < 256) ∧ s.L = (unpack B).drop p ∧
      Holds w (pts b (.cells #[v, .int .i64 (p : Nat), .int .i64 (s.bad : Nat)] 112 (0, 0)) :: own 5 1 v B.length (bv B) :: F) := by
  obtain ⟨⟨v, B, p⟩, h⟩ := Holds.elim h
  obtain ⟨⟨h1, h2, h3, h4⟩, h⟩ := Holds.elimP h
  exact ⟨v, B, p, h1, h2, h3, h4, h.split⟩
theorem rS_shut {b : Nat} {s : Rs} {w : World} {F : List HProp} {v : Value} {B : List Nat} {p : Nat} (h1 : p ≤ 8 * B.length) (h2 : B.length ≤ 1000000000000) (h3 : ∀ y ∈ B, y < 256) (h4 : s.L = (unpack B).drop p)
    (h : Holds w (pts b (.cells #[v, .int .i64 (p : Nat), .int .i64 (s.bad : Nat)] 112 (0, 0)) :: own 5 1 v B.length (bv B) :: F)) : Holds w (rS b s :: F) :=
  h.unsplit.mono fun _ hx => ⟨(v, B, p), ⟨h1, h2, h3, h4⟩, hx⟩

set_option maxRecDepth 100000 in
theorem rRefuse_c (b : Nat) (e : Nat) (s : Rs) (w : World) (F : List HProp) (H : Holds w (rS b s :: F)) :
    Calls Tryz.prog 86 #[.pointer (some ⟨b, 0, none⟩), .int .i64 e] w (Ret w (.tuple #[]) (rS b (s.refuse e) :: F)) := by
  obtain ⟨v, B, p, h1, h2, h3, h4, H1⟩ := rS_open H
  replace h4 := Lib.hid h4
  have c2 := H1.cell 2
  have z2 := H1.free 2
  simp at c2
  unfold Rs.refuse
  by_cases hb : s.bad = 0
  · rw [if_pos hb]
    rw [hb] at c2
    go_enter Tryz.func86, Tryz.ntmps86
    go_wp2
    go_end0
    exact ⟨rfl, rS_shut h1 h2 h3 h4.out (H1.store 2 _), (Str.refl w).setCell _ _⟩
  · rw [if_neg hb]
    have hb' : ((s.bad : Int) == 0) = false := by simp; omega
    go_enter Tryz.func86, Tryz.ntmps86
    go_wp2
    go_end0
    exact ⟨rfl, H, Str.refl w⟩

set_option maxRecDepth 100000 in
theorem rLeft_c (b : Nat) (s : Rs) (w : World) (F : List HProp) (H : Holds w (rS b s :: F)) :
    Calls Tryz.prog 87 #[.pointer (some ⟨b, 0, none⟩)] w (fun e w' => e = .returned (.int .i64 (s.L.length : Nat)) ∧ ∃ m, w' = w.drewN m) := by
  obtain ⟨v, B, p, h1, h2, h3, h4, H1⟩ := rS_open H
  have hlen : s.L.length = 8 * B.length - p := by rw [h4, List.length_drop, length_unpack]
  replace h4 := Lib.hid h4
  replace hlen := Lib.hid hlen
  have c0 := H1.cell 0
  have c1 := H1.cell 1
  simp at c0 c1
  have hv : ∃ a c, v = .slice a B.length c := by
    rcases H1.swap.own_is.2 with ⟨h, h'⟩ | ⟨a, c, h, _⟩
    · rw [h']; exact ⟨_, _, h⟩
    · exact ⟨_, _, h⟩
  obtain ⟨a, c, rfl⟩ := hv
  go_enter Tryz.func87, Tryz.ntmps87
  go_wp2
  have hw1 : IntKind.i64.wrap (8 * (B.length : Int)) = 8 * (B.length : Int) := IntWalk.i64_in _ (by omega)
  have hw2 : IntKind.i64.wrap (8 * (B.length : Int) - (p : Int)) = 8 * (B.length : Int) - (p : Int) := IntWalk.i64_in _ (by omega)
  go_quiet (fail)
  rename_i nq
  go_wp2
  go_ret
  exact ⟨ret_int (by rw [hlen.out]; omega), nq, rfl⟩

theorem refuse_bad (s : Rs) {e : Nat} (he : e ≠ 0) : (s.refuse e).bad ≠ 0 := by
  unfold Rs.refuse
  split
  · exact he
  · assumption
theorem ne_bad {n : Nat} (h : n ≠ 0) : ((n : Int) != 0) = true := by simp; omega
theorem bad_cell {b : Nat} {s : Rs} {w : World} {F : List HProp} (h : Holds w (rS b s :: F)) : w.cell? ⟨b, 2, none⟩ = some (.int .i64 (s.bad : Nat)) := by
  obtain ⟨v, B, p, h1, h2, h3, h4, H1⟩ := rS_open h
  exact H1.cell 2

set_option maxRecDepth 100000 in
theorem rBits_c (b : Nat) (n : Int) (s : Rs) (w : World) (F : List HProp) (H : Holds w (rS b s :: F)) :
    Calls Tryz.prog 40 #[.pointer (some ⟨b, 0, none⟩), .int .i64 n] w (Ret w (.int .u64 ((s.bits n).1 : Nat)) (rS b (s.bits n).2 :: F)) := by
  obtain ⟨v, B, p, h1, h2, h3, h4, H1⟩ := rS_open H
  have hlen : s.L.length = 8 * B.length - p := by rw [h4, List.length_drop, length_unpack]
  replace h4 := Lib.hid h4
  replace hlen := Lib.hid hlen
  have n10 := ne_bad (refuse_bad s (e := 10) (by decide))
  have n12 := ne_bad (refuse_bad s (e := 12) (by decide))
  unfold Rs.bits
  by_cases h0 : n < 0
  · rw [if_pos (.inl h0)]
    go_enter Tryz.func40, Tryz.ntmps40
    go_wp2_with (go_at_call 86; refine (rRefuse_c b 10 s w F H).mono ?_; rintro e w' ⟨rfl, H', S'⟩; have c2 := bad_cell H')
    refine bodyPost_ret (results_tmp rfl _ _ _) rfl ⟨rfl, H', S'⟩
  · by_cases h64 : 64 < n
    · rw [if_pos (.inr h64)]
      go_enter Tryz.func40, Tryz.ntmps40
      go_wp2_with (go_at_call 86; refine (rRefuse_c b 10 s w F H).mono ?_; rintro e w' ⟨rfl, H', S'⟩; have c2 := bad_cell H')
      refine bodyPost_ret (results_tmp rfl _ _ _) rfl ⟨rfl, H', S'⟩
    · rw [if_neg (by omega)]
      by_cases hl : (s.L.length : Int) < n
      · rw [if_pos hl]
        go_enter Tryz.func40, Tryz.ntmps40
        go_wp2_with (first | (go_at_call 87; refine (rLeft_c b s w F H).mono ?_; rintro e w' ⟨rfl, m, rfl⟩) | (go_at_call 86; refine (rRefuse_c b 12 s _ F (H.drewN _)).mono ?_; rintro e w' ⟨rfl, H', S'⟩; have c2 := bad_cell H'))
        refine bodyPost_ret (results_tmp rfl _ _ _) rfl ⟨rfl, H', ((Str.refl w).drewN _).trans S'⟩
      · rw [if_neg hl]
        have c2 := bad_cell H
        by_cases hb : s.bad = 0
        · rw [if_neg (by simp [hb])]
          rw [hb] at c2
          obtain ⟨N, rfl⟩ := Int.eq_ofNat_of_zero_le (show 0 ≤ n by omega)
          have c1 := H1.cell 1
          simp at c1
          have z1 := H1.free 1
          have hl' := hlen.out
          have hN : p + N ≤ 8 * B.length := by omega
          clear hl'
          go_enter Tryz.func40, Tryz.ntmps40
          go_wp2_with (first | (go_at_call 87; refine (rLeft_c b s w F H).mono ?_; rintro e w' ⟨rfl, m, rfl⟩) | (go_at_call 88; refine (peek_c b p N B v _ _ _ _ (H1.drewN _) h3 hN (by omega) h2).mono ?_; rintro e w' ⟨rfl, m2, rfl⟩))
          refine bodyPost_ret (results_tmp rfl _ _ _) rfl ⟨?_, ?_, (((Str.refl w).drewN _).setCell _ _)⟩
          · exact ret_int (by rw [h4.out]; rfl)
          · refine rS_shut (v := v) (B := B) (p := p + N) hN h2 h3 ?_ ?_
            · simp only [Int.toNat_natCast]; rw [h4.out, List.drop_drop]
            · simpa using (H1.drewN (m + m2)).store 1 (.int .i64 (p + N : Nat))
        · rw [if_pos hb]
          have hb' := ne_bad hb
          go_enter Tryz.func40, Tryz.ntmps40
          go_wp2_with (first | (go_at_call 87; refine (rLeft_c b s w F H).mono ?_; rintro e w' ⟨rfl, m, rfl⟩))
          refine bodyPost_ret (results_tmp rfl _ _ _) rfl ⟨rfl, H.drewN _, ((Str.refl w).drewN _)⟩

set_option maxRecDepth 100000 in
theorem rBit_c (b : Nat) (s : Rs) (w : World) (F : List HProp) (H : Holds w (rS b s :: F)) :
    Calls Tryz.prog 89 #[.pointer (some ⟨b, 0, none⟩)] w (Ret w (.bool s.bit.1) (rS b s.bit.2 :: F)) := by
  unfold Rs.bit
  go_enter Tryz.func89, Tryz.ntmps89
  go_wp2_with (go_at_call 40; refine (rBits_c b 1 s w F H).mono ?_; rintro e w' ⟨rfl, H', S'⟩)
  go_ret
  refine ⟨ret_bool ?_, H', S'⟩
  rw [Bool.eq_iff_iff]
  simp
  omega

set_option maxRecDepth 100000 in
theorem rEnd_c (b : Nat) (s : Rs) (w : World) (F : List HProp) (H : Holds w (rS b s :: F)) :
    Calls Tryz.prog 42 #[.pointer (some ⟨b, 0, none⟩)] w (fun e w' => e = .returned (.int .i64 (s.end_ : Nat)) ∧ ∃ m, w' = w.drewN m) := by
  obtain ⟨v, B, p, h1, h2, h3, h4, H1⟩ := rS_open H
  have hlen : s.L.length = 8 * B.length - p := by rw [h4, List.length_drop, length_unpack]
  replace h4 := Lib.hid h4
  have c1 := H1.cell 1
  simp at c1
  have c2 := bad_cell H
  unfold Rs.end_
  by_cases hb : s.bad = 0
  · rw [if_neg (by simp [hb])]
    rw [hb] at c2
    by_cases hl : 8 ≤ s.L.length
    · replace hlen := Lib.hid hlen
      rw [if_pos hl]
      go_enter Tryz.func42, Tryz.ntmps42
      go_wp2_with (first | (go_at_call 87; refine (rLeft_c b s w F H).mono ?_; rintro e w' ⟨rfl, m, rfl⟩))
      refine bodyPost_ret (results_tmp rfl _ _ _) rfl ⟨rfl, m, rfl⟩
    · rw [if_neg hl]
      have hp : p + s.L.length ≤ 8 * B.length := by omega
      replace hlen := Lib.hid hlen
      have hv : bval (((unpack B).drop p).take s.L.length) = bval s.L := by rw [← h4.out, List.take_length]
      replace hv := Lib.hid hv
      go_enter Tryz.func42, Tryz.ntmps42
      by_cases h0 : bval s.L = 0
      · rw [if_neg (by simp [h0])]
        rw [h0] at hv
        go_wp2_with (first | (go_at_call 87; refine (rLeft_c b s w F H).mono ?_; rintro e w' ⟨rfl, m, rfl⟩) | (go_at_call 88; refine (peek_c b p s.L.length B v _ _ _ _ (H1.drewN _) h3 hp (by omega) h2).mono ?_; rw [hv.out]; rintro e w' ⟨rfl, m2, rfl⟩))
        refine bodyPost_ret (results_tmp rfl _ _ _) rfl ⟨rfl, _, rfl⟩
      · rw [if_pos h0]
        have h0' := ne_bad h0
        go_wp2_with (first | (go_at_call 87; refine (rLeft_c b s w F H).mono ?_; rintro e w' ⟨rfl, m, rfl⟩) | (go_at_call 88; refine (peek_c b p s.L.length B v _ _ _ _ (H1.drewN _) h3 hp (by omega) h2).mono ?_; rw [hv.out]; rintro e w' ⟨rfl, m2, rfl⟩))
        refine bodyPost_ret (results_tmp rfl _ _ _) rfl ⟨rfl, _, rfl⟩
  · rw [if_pos hb]
    have hb' := ne_bad hb
    replace hlen := Lib.hid hlen
    go_enter Tryz.func42, Tryz.ntmps42
    go_wp2_with (first | (go_at_call 87; refine (rLeft_c b s w F H).mono ?_; rintro e w' ⟨rfl, m, rfl⟩))
    refine bodyPost_ret (results_tmp rfl _ _ _) rfl ⟨rfl, _, rfl⟩
end Go.Proofs.YtakaolcajbhkiaaGreat

namespace Go.Proofs.YtakaolcajbhkiaaGreat
set_option linter.unusedVariables false
set_option linter.unusedSimpArgs false
open Go.RowKit Go.SL Go.Fm

theorem bval_one (l : List Bool) (j : Nat) (b : Bool) (h : l[j]? = some b) : bval ((l.drop j).take 1) = b.toNat := by
  obtain ⟨hlt, hb⟩ := List.getElem?_eq_some_iff.1 h
  rw [List.drop_eq_getElem_cons hlt, List.take_succ_cons, List.take_zero, hb]
  simp [bval]

end Go.Proofs.YtakaolcajbhkiaaGreat

namespace Go.Proofs.YtakaolcajbhkiaaGreat
set_option linter.unusedVariables false
set_option linter.unusedSimpArgs false
open Go.RowKit Go.SL Go.Fm

/-- The pieces of a Var's rounds. -/
theorem varGo_short {L : List Bool} {k x : Nat} (h : L.length < 8) : varGo L k x = .inl 12 := by rw [varGo, dif_pos h]
theorem varGo_form {L : List Bool} {k x : Nat} (h : ¬ L.length < 8) (h2 : (k = 9 ∧ 1 < bval (L.take 8)) ∨ (0 < k ∧ bval (L.take 8) = 0)) : varGo L k x = .inl 13 := by rw [varGo, dif_neg h, if_pos h2]
theorem varGo_more {L : List Bool} {k x : Nat} (h : ¬ L.length < 8) (h2 : ¬ ((k = 9 ∧ 1 < bval (L.take 8)) ∨ (0 < k ∧ bval (L.take 8) = 0))) (h3 : 128 ≤ bval (L.take 8)) :
    varGo L k x = varGo (L.drop 8) (k + 1) (x + bval (L.take 8) % 128 * 2 ^ (7 * k)) := by rw [varGo, dif_neg h, if_neg h2, if_pos h3]
theorem varGo_done {L : List Bool} {k x : Nat} (h : ¬ L.length < 8) (h2 : ¬ ((k = 9 ∧ 1 < bval (L.take 8)) ∨ (0 < k ∧ bval (L.take 8) = 0))) (h3 : ¬ 128 ≤ bval (L.take 8)) :
    varGo L k x = .inr (x + bval (L.take 8) % 128 * 2 ^ (7 * k), L.drop 8) := by rw [varGo, dif_neg h, if_neg h2, if_neg h3]

/-- What the program reckons for a group. -/
theorem var_num (x g k : Nat) (hx : x < 2 ^ (7 * k)) (hk : k ≤ 9) (h9 : k = 9 → g ≤ 1) (hg : g < 256) :
    bits .or .u64 (x : Int) (IntKind.u64.wrap (bits .and .u64 (g : Int) 127 * 2 ^ (7 * k))) = ((x + g % 128 * 2 ^ (7 * k) : Nat) : Int) := by
  have hw : ∀ n : Int, 0 ≤ n → n < 2 ^ 64 → IntKind.u64.wrap n = n := fun n a b => IntWalk.u64_in n (by omega)
  have e : bits .and .u64 (g : Int) 127 = (g : Int) % 128 := bits_mask .u64 64 (by decide) hw 7 (by decide) _ (by omega) (by omega)
  have e3 : (g : Int) % 128 * 2 ^ (7 * k) = ((g % 128 * 2 ^ (7 * k) : Nat) : Int) := by simp
  have hlt : g % 128 * 2 ^ (7 * k) < 2 ^ 64 := by
    by_cases h : k = 9
    · subst h
      have : g % 128 ≤ 1 := by have := h9 rfl; omega
      calc g % 128 * 2 ^ (7 * 9) ≤ 1 * 2 ^ (7 * 9) := Nat.mul_le_mul_right _ this
        _ < 2 ^ 64 := by decide
    · have h1 : 2 ^ (7 * k) ≤ 2 ^ 56 := Nat.pow_le_pow_right (by decide) (by omega)
      calc g % 128 * 2 ^ (7 * k) ≤ 127 * 2 ^ 56 := Nat.mul_le_mul (by omega) h1
        _ < 2 ^ 64 := by decide
  have h64 : (2 : Nat) ^ 64 = 18446744073709551616 := by decide
  have hx2 : 2 ^ (7 * k) ≤ 2 ^ 63 := Nat.pow_le_pow_right (by decide) (by omega)
  have h63 : (2 : Nat) ^ 63 = 9223372036854775808 := by decide
  rw [e, e3]
  rw [IntWalk.u64_in _ (by omega), bits_or_comm]
  have hd : ((g % 128 * 2 ^ (7 * k) : Nat) : Int) % 2 ^ (7 * k) = 0 := by simp
  have hxi : (x : Int) < 2 ^ (7 * k) := by
    have : ((2 ^ (7 * k) : Nat) : Int) = 2 ^ (7 * k) := by simp
    rw [← this]; omega
  rw [bits_join .u64 64 (by decide) hw (7 * k) _ _ (by omega) hd (by omega) (by omega) hxi (by omega)]
  omega
theorem var_bound (x g k : Nat) (hx : x < 2 ^ (7 * k)) : x + g % 128 * 2 ^ (7 * k) < 2 ^ (7 * (k + 1)) := by
  have : g % 128 + 1 ≤ 128 := by omega
  have h1 : (g % 128 + 1) * 2 ^ (7 * k) ≤ 128 * 2 ^ (7 * k) := Nat.mul_le_mul_right _ this
  rw [show 7 * (k + 1) = 7 + 7 * k by omega, Nat.pow_add]
  rw [Nat.add_mul] at h1
  have : (2 : Nat) ^ 7 = 128 := by decide
  omega

end Go.Proofs.YtakaolcajbhkiaaGreat

namespace Go.Proofs.YtakaolcajbhkiaaGreat
set_option linter.unusedVariables false
set_option linter.unusedSimpArgs false
open Go.RowKit Go.SL Go.Fm

theorem bits_xor_comm (k : IntKind) (a b : Int) : bits .xor k a b = bits .xor k b a := by simp only [bits, BitVec.xor_comm]
theorem xor_zero_i64 (a : Nat) (ha : a < 9223372036854775808) : bits .xor .i64 (a : Int) 0 = a := by
  have e : (BitVec.ofInt 64 (a : Int) ^^^ BitVec.ofInt 64 0).toNat = a := by
    rw [show (BitVec.ofInt 64 0) = 0#64 from rfl, BitVec.xor_zero, BitVec.ofInt_natCast, BitVec.toNat_ofNat, Nat.mod_eq_of_lt (by omega)]
  show IntKind.i64.wrap ((BitVec.ofInt 64 (a : Int) ^^^ BitVec.ofInt 64 0).toNat : Int) = a
  rw [e]
  exact IntWalk.i64_in _ (by omega)
/-- What the program reckons for a Zig's number. -/
theorem unzig_num (u : Nat) (hu : u < 18446744073709551616) : bits .xor .i64 (wrap64 ((u : Int) / 2)) (wrap64 (-wrap64 (bits .and .u64 (u : Int) 1))) = unzig u := by
  have hw : ∀ n : Int, 0 ≤ n → n < 2 ^ 64 → IntKind.u64.wrap n = n := fun n a b => IntWalk.u64_in n (by omega)
  have e : bits .and .u64 (u : Int) 1 = (u : Int) % 2 := bits_mask .u64 64 (by decide) hw 1 (by decide) _ (by omega) (by omega)
  have e1 : wrap64 ((u : Int) / 2) = ((u / 2 : Nat) : Int) := by unfold wrap64; omega
  rw [e, e1]
  unfold unzig
  split
  · rename_i h
    have e2 : wrap64 (-wrap64 ((u : Int) % 2)) = -1 := by unfold wrap64; omega
    rw [e2, bits_xor_comm, i64_not _ (by omega)]
  · rename_i h
    have e2 : wrap64 (-wrap64 ((u : Int) % 2)) = 0 := by unfold wrap64; omega
    rw [e2, xor_zero_i64 _ (by omega)]

theorem varGo_lt (n : Nat) : ∀ (L : List Bool) (k x y : Nat) (l : List Bool), L.length = n → k ≤ 9 → x < 2 ^ (7 * k) → varGo L k x = .inr (y, l) → y < 18446744073709551616 := by
  induction n using Nat.strongRecOn with
  | _ n ih =>
    intro L k x y l hn hk hx h
    by_cases h8 : L.length < 8
    · rw [varGo_short h8] at h; cases h
    by_cases hf : (k = 9 ∧ 1 < bval (L.take 8)) ∨ (0 < k ∧ bval (L.take 8) = 0)
    · rw [varGo_form h8 hf] at h; cases h
    by_cases h128 : 128 ≤ bval (L.take 8)
    · rw [varGo_more h8 hf h128] at h
      exact ih (L.drop 8).length (by rw [List.length_drop]; omega) _ _ _ _ _ rfl (by omega) (var_bound x _ k hx) h
    · rw [varGo_done h8 hf h128] at h
      simp only [Sum.inr.injEq, Prod.mk.injEq] at h
      rw [← h.1]
      by_cases h9 : k = 9
      · subst h9
        have h1 : bval (L.take 8) % 128 ≤ 1 := by omega
        have h2 : bval (L.take 8) % 128 * 2 ^ (7 * 9) ≤ 1 * 2 ^ (7 * 9) := Nat.mul_le_mul_right _ h1
        have h3 : (2 : Nat) ^ (7 * 9) = 9223372036854775808 := by decide
        omega
      · have h1 := var_bound x (bval (L.take 8)) k hx
        have h2 : 2 ^ (7 * (k + 1)) ≤ 2 ^ 63 := Nat.pow_le_pow_right (by decide) (by omega)
        have h3 : (2 : Nat) ^ 63 = 9223372036854775808 := by decide
        omega
theorem var_lt (s : Rs) : s.var.1 < 18446744073709551616 := by
  unfold Rs.var
  split
  · exact Nat.two_pow_pos 64
  · split
    · exact Nat.two_pow_pos 64
    · rename_i x l h
      exact varGo_lt _ _ _ _ _ _ rfl (by decide) (by decide) h

set_option maxRecDepth 100000 in
theorem From_c (v : Value) (B : List Nat) (w : World) (F : List HProp) (H : Holds w F) (hv : SliceIs w 1 v B.length (bv B)) (hB : ∀ x ∈ B, x < 256) (hl : B.length ≤ 1000000000000) :
    Calls Tryz.prog 39 #[v] w (fun e w' => ∃ b, e = .returned (.pointer (some ⟨b, 0, none⟩)) ∧ Holds w' (rS b ⟨unpack B, 0⟩ :: F) ∧ Str w w') := by
  go_enter Tryz.func39, Tryz.ntmps39
  go_wp2_with (go_at_call 82; refine (clone_c v _ _ w _ H hv bv_cell (by omega)).mono ?_; rintro e w' ⟨v', rfl, H', S'⟩; obtain ⟨a, c, rfl⟩ := own_shape H')
  go_ret
  exact ⟨_, rfl, rS_shut (s := ⟨unpack B, 0⟩) (B := B) (p := 0) (by omega) hl hB (by simp) (H'.alloc _), S'.alloc _⟩
end Go.Proofs.YtakaolcajbhkiaaGreat
