/- The reader of bits: Left, refuse, Bits, Bit, End. -/
import Derived.Test.YtakaolcajbhkiaaBR
namespace Go.Proofs.Ytakaolcajbhkiaa
set_option linter.unusedVariables false
set_option linter.unusedSimpArgs false
open Go.RowKit Go.SL Go.Fm

/-- A reader's struct by its state. -/
def rS (b : Nat) (s : Rs) : HProp := fun h => ∃ (x : Value × List Nat × Nat), (x.2.2 ≤ 8 * x.2.1.length ∧ x.2.1.length ≤ 1000000000000 ∧ (∀ y ∈ x.2.1, y < 256) ∧ s.L = (unpack x.2.1).drop x.2.2) ∧
  sep (pts b (.cells #[x.1, .int .i64 (x.2.2 : Nat), .int .i64 (s.bad : Nat)] 61 (0, 0))) (own 5 1 x.1 x.2.1.length (bv x.2.1)) h
theorem rS_open {b : Nat} {s : Rs} {w : World} {F : List HProp} (h : Holds w (rS b s :: F)) :
    ∃ (v : Value) (B : List Nat) (p : Nat), p ≤ 8 * B.length ∧ B.length ≤ 1000000000000 ∧ (∀ y ∈ B, y < 256) ∧ s.L = (unpack B).drop p ∧
      Holds w (pts b (.cells #[v, .int .i64 (p : Nat), .int .i64 (s.bad : Nat)] 61 (0, 0)) :: own 5 1 v B.length (bv B) :: F) := by
  obtain ⟨⟨v, B, p⟩, h⟩ := Holds.elim h
  obtain ⟨⟨h1, h2, h3, h4⟩, h⟩ := Holds.elimP h
  exact ⟨v, B, p, h1, h2, h3, h4, h.split⟩
theorem rS_shut {b : Nat} {s : Rs} {w : World} {F : List HProp} {v : Value} {B : List Nat} {p : Nat} (h1 : p ≤ 8 * B.length) (h2 : B.length ≤ 1000000000000) (h3 : ∀ y ∈ B, y < 256) (h4 : s.L = (unpack B).drop p)
    (h : Holds w (pts b (.cells #[v, .int .i64 (p : Nat), .int .i64 (s.bad : Nat)] 61 (0, 0)) :: own 5 1 v B.length (bv B) :: F)) : Holds w (rS b s :: F) :=
  h.unsplit.mono fun _ hx => ⟨(v, B, p), ⟨h1, h2, h3, h4⟩, hx⟩

set_option maxRecDepth 100000 in
theorem rRefuse_c (b : Nat) (e : Nat) (s : Rs) (w : World) (F : List HProp) (H : Holds w (rS b s :: F)) :
    Calls Try.prog 26 #[.pointer (some ⟨b, 0, none⟩), .int .i64 e] w (Ret w (.tuple #[]) (rS b (s.refuse e) :: F)) := by
  obtain ⟨v, B, p, h1, h2, h3, h4, H1⟩ := rS_open H
  replace h4 := Lib.hid h4
  have c2 := H1.cell 2
  have z2 := H1.free 2
  simp at c2
  unfold Rs.refuse
  by_cases hb : s.bad = 0
  · rw [if_pos hb]
    rw [hb] at c2
    go_enter Try.func26, Try.ntmps26
    go_wp2
    go_end0
    exact ⟨rfl, rS_shut h1 h2 h3 h4.out (H1.store 2 _), (Str.refl w).setCell _ _⟩
  · rw [if_neg hb]
    have hb' : ((s.bad : Int) == 0) = false := by simp; omega
    go_enter Try.func26, Try.ntmps26
    go_wp2
    go_end0
    exact ⟨rfl, H, Str.refl w⟩

set_option maxRecDepth 100000 in
theorem rLeft_c (b : Nat) (s : Rs) (w : World) (F : List HProp) (H : Holds w (rS b s :: F)) :
    Calls Try.prog 27 #[.pointer (some ⟨b, 0, none⟩)] w (fun e w' => e = .returned (.int .i64 (s.L.length : Nat)) ∧ ∃ m, w' = w.drewN m) := by
  obtain ⟨v, B, p, h1, h2, h3, h4, H1⟩ := rS_open H
  have hlen : s.L.length = 8 * B.length - p := by rw [h4, List.length_drop, length_unpack]
  replace h4 := Lib.hid h4
  replace hlen := Lib.hid hlen
  have c0 := H1.cell 0
  have c1 := H1.cell 1
  simp at c0 c1
  have hv : ∃ a c, v = .slice a B.length c := by
    rcases H1.swap.own_is.2 with ⟨h, h'⟩ | ⟨a, c, h, _⟩
    · rw [h']; exact ⟨_, _, h⟩
    · exact ⟨_, _, h⟩
  obtain ⟨a, c, rfl⟩ := hv
  go_enter Try.func27, Try.ntmps27
  go_wp2
  have hw1 : IntKind.i64.wrap (8 * (B.length : Int)) = 8 * (B.length : Int) := IntWalk.i64_in _ (by omega)
  have hw2 : IntKind.i64.wrap (8 * (B.length : Int) - (p : Int)) = 8 * (B.length : Int) - (p : Int) := IntWalk.i64_in _ (by omega)
  go_quiet (fail)
  rename_i nq
  go_wp2
  go_ret
  exact ⟨ret_int (by rw [hlen.out]; omega), nq, rfl⟩

theorem refuse_bad (s : Rs) {e : Nat} (he : e ≠ 0) : (s.refuse e).bad ≠ 0 := by
  unfold Rs.refuse
  split
  · exact he
  · assumption
theorem ne_bad {n : Nat} (h : n ≠ 0) : ((n : Int) != 0) = true := by simp; omega
theorem bad_cell {b : Nat} {s : Rs} {w : World} {F : List HProp} (h : Holds w (rS b s :: F)) : w.cell? ⟨b, 2, none⟩ = some (.int .i64 (s.bad : Nat)) := by
  obtain ⟨v, B, p, h1, h2, h3, h4, H1⟩ := rS_open h
  exact H1.cell 2

set_option maxRecDepth 100000 in
theorem rBits_c (b : Nat) (n : Int) (s : Rs) (w : World) (F : List HProp) (H : Holds w (rS b s :: F)) :
    Calls Try.prog 19 #[.pointer (some ⟨b, 0, none⟩), .int .i64 n] w (Ret w (.int .u64 ((s.bits n).1 : Nat)) (rS b (s.bits n).2 :: F)) := by
  obtain ⟨v, B, p, h1, h2, h3, h4, H1⟩ := rS_open H
  have hlen : s.L.length = 8 * B.length - p := by rw [h4, List.length_drop, length_unpack]
  replace h4 := Lib.hid h4
  replace hlen := Lib.hid hlen
  have n10 := ne_bad (refuse_bad s (e := 10) (by decide))
  have n12 := ne_bad (refuse_bad s (e := 12) (by decide))
  unfold Rs.bits
  by_cases h0 : n < 0
  · rw [if_pos (.inl h0)]
    go_enter Try.func19, Try.ntmps19
    go_wp2_with (go_at_call 26; refine (rRefuse_c b 10 s w F H).mono ?_; rintro e w' ⟨rfl, H', S'⟩; have c2 := bad_cell H')
    refine bodyPost_ret (results_tmp rfl _ _ _) rfl ⟨rfl, H', S'⟩
  · by_cases h64 : 64 < n
    · rw [if_pos (.inr h64)]
      go_enter Try.func19, Try.ntmps19
      go_wp2_with (go_at_call 26; refine (rRefuse_c b 10 s w F H).mono ?_; rintro e w' ⟨rfl, H', S'⟩; have c2 := bad_cell H')
      refine bodyPost_ret (results_tmp rfl _ _ _) rfl ⟨rfl, H', S'⟩
    · rw [if_neg (by omega)]
      by_cases hl : (s.L.length : Int) < n
      · rw [if_pos hl]
        go_enter Try.func19, Try.ntmps19
        go_wp2_with (first | (go_at_call 27; refine (rLeft_c b s w F H).mono ?_; rintro e w' ⟨rfl, m, rfl⟩) | (go_at_call 26; refine (rRefuse_c b 12 s _ F (H.drewN _)).mono ?_; rintro e w' ⟨rfl, H', S'⟩; have c2 := bad_cell H'))
        refine bodyPost_ret (results_tmp rfl _ _ _) rfl ⟨rfl, H', ((Str.refl w).drewN _).trans S'⟩
      · rw [if_neg hl]
        have c2 := bad_cell H
        by_cases hb : s.bad = 0
        · rw [if_neg (by simp [hb])]
          rw [hb] at c2
          obtain ⟨N, rfl⟩ := Int.eq_ofNat_of_zero_le (show 0 ≤ n by omega)
          have c1 := H1.cell 1
          simp at c1
          have z1 := H1.free 1
          have hl' := hlen.out
          have hN : p + N ≤ 8 * B.length := by omega
          clear hl'
          go_enter Try.func19, Try.ntmps19
          go_wp2_with (first | (go_at_call 27; refine (rLeft_c b s w F H).mono ?_; rintro e w' ⟨rfl, m, rfl⟩) | (go_at_call 28; refine (peek_c b p N B v _ _ _ _ (H1.drewN _) h3 hN (by omega) h2).mono ?_; rintro e w' ⟨rfl, m2, rfl⟩))
          refine bodyPost_ret (results_tmp rfl _ _ _) rfl ⟨?_, ?_, (((Str.refl w).drewN _).setCell _ _)⟩
          · exact ret_int (by rw [h4.out]; rfl)
          · refine rS_shut (v := v) (B := B) (p := p + N) hN h2 h3 ?_ ?_
            · simp only [Int.toNat_natCast]; rw [h4.out, List.drop_drop]
            · simpa using (H1.drewN (m + m2)).store 1 (.int .i64 (p + N : Nat))
        · rw [if_pos hb]
          have hb' := ne_bad hb
          go_enter Try.func19, Try.ntmps19
          go_wp2_with (first | (go_at_call 27; refine (rLeft_c b s w F H).mono ?_; rintro e w' ⟨rfl, m, rfl⟩))
          refine bodyPost_ret (results_tmp rfl _ _ _) rfl ⟨rfl, H.drewN _, ((Str.refl w).drewN _)⟩

set_option maxRecDepth 100000 in
theorem rBit_c (b : Nat) (s : Rs) (w : World) (F : List HProp) (H : Holds w (rS b s :: F)) :
    Calls Try.prog 29 #[.pointer (some ⟨b, 0, none⟩)] w (Ret w (.bool s.bit.1) (rS b s.bit.2 :: F)) := by
  unfold Rs.bit
  go_enter Try.func29, Try.ntmps29
  go_wp2_with (go_at_call 19; refine (rBits_c b 1 s w F H).mono ?_; rintro e w' ⟨rfl, H', S'⟩)
  go_ret
  refine ⟨ret_bool ?_, H', S'⟩
  rw [Bool.eq_iff_iff]
  simp
  omega

set_option maxRecDepth 100000 in
theorem rEnd_c (b : Nat) (s : Rs) (w : World) (F : List HProp) (H : Holds w (rS b s :: F)) :
    Calls Try.prog 21 #[.pointer (some ⟨b, 0, none⟩)] w (fun e w' => e = .returned (.int .i64 (s.end_ : Nat)) ∧ ∃ m, w' = w.drewN m) := by
  obtain ⟨v, B, p, h1, h2, h3, h4, H1⟩ := rS_open H
  have hlen : s.L.length = 8 * B.length - p := by rw [h4, List.length_drop, length_unpack]
  replace h4 := Lib.hid h4
  have c1 := H1.cell 1
  simp at c1
  have c2 := bad_cell H
  unfold Rs.end_
  by_cases hb : s.bad = 0
  · rw [if_neg (by simp [hb])]
    rw [hb] at c2
    by_cases hl : 8 ≤ s.L.length
    · replace hlen := Lib.hid hlen
      rw [if_pos hl]
      go_enter Try.func21, Try.ntmps21
      go_wp2_with (first | (go_at_call 27; refine (rLeft_c b s w F H).mono ?_; rintro e w' ⟨rfl, m, rfl⟩))
      refine bodyPost_ret (results_tmp rfl _ _ _) rfl ⟨rfl, m, rfl⟩
    · rw [if_neg hl]
      have hp : p + s.L.length ≤ 8 * B.length := by omega
      replace hlen := Lib.hid hlen
      have hv : bval (((unpack B).drop p).take s.L.length) = bval s.L := by rw [← h4.out, List.take_length]
      replace hv := Lib.hid hv
      go_enter Try.func21, Try.ntmps21
      by_cases h0 : bval s.L = 0
      · rw [if_neg (by simp [h0])]
        rw [h0] at hv
        go_wp2_with (first | (go_at_call 27; refine (rLeft_c b s w F H).mono ?_; rintro e w' ⟨rfl, m, rfl⟩) | (go_at_call 28; refine (peek_c b p s.L.length B v _ _ _ _ (H1.drewN _) h3 hp (by omega) h2).mono ?_; rw [hv.out]; rintro e w' ⟨rfl, m2, rfl⟩))
        refine bodyPost_ret (results_tmp rfl _ _ _) rfl ⟨rfl, _, rfl⟩
      · rw [if_pos h0]
        have h0' := ne_bad h0
        go_wp2_with (first | (go_at_call 27; refine (rLeft_c b s w F H).mono ?_; rintro e w' ⟨rfl, m, rfl⟩) | (go_at_call 28; refine (peek_c b p s.L.length B v _ _ _ _ (H1.drewN _) h3 hp (by omega) h2).mono ?_; rw [hv.out]; rintro e w' ⟨rfl, m2, rfl⟩))
        refine bodyPost_ret (results_tmp rfl _ _ _) rfl ⟨rfl, _, rfl⟩
  · rw [if_pos hb]
    have hb' := ne_bad hb
    replace hlen := Lib.hid hlen
    go_enter Try.func21, Try.ntmps21
    go_wp2_with (first | (go_at_call 27; refine (rLeft_c b s w F H).mono ?_; rintro e w' ⟨rfl, m, rfl⟩))
    refine bodyPost_ret (results_tmp rfl _ _ _) rfl ⟨rfl, _, rfl⟩
end Go.Proofs.Ytakaolcajbhkiaa
