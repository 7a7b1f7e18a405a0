/- The laws' packs and unpacks. -/
import Derived.Test.YtakaolcajbhkiaaGreatDT2
import Derived.Test.YtakaolcajbhkiaaGreatDT3
import Derived.Test.YtakaolcajbhkiaaGreatDT1
import Derived.Test.YtakaolcajbhkiaaGreatDT7
import Derived.Test.YtakaolcajbhkiaaGreatLLate2
import Derived.Test.YtakaolcajbhkiaaGreatTm3
import Derived.WalkSpells
namespace Go.Proofs.YtakaolcajbhkiaaGreat
open Go.RowKit Go.SL Go.Fm
set_option linter.unusedVariables false
set_option linter.unusedSimpArgs false
/-- What packing makes of times, and its number. -/
def PackIs (l : List Int) (B : List Nat) (c : Nat) : Prop :=
  (4096 < l.length ∧ B = [] ∧ c = 60) ∨ (l.length ≤ 4096 ∧ ¬ Rising l ∧ B = [] ∧ c = 61) ∨ (l.length ≤ 4096 ∧ Rising l ∧ B = pack (tTo l l.length) ∧ c = 0)
theorem packIs (l : List Int) : ∃ B c, PackIs l B c := by
  by_cases h : 4096 < l.length
  · exact ⟨_, _, .inl ⟨h, rfl, rfl⟩⟩
  by_cases hr : Rising l
  · exact ⟨_, _, .inr (.inr ⟨by omega, hr, rfl, rfl⟩)⟩
  · exact ⟨_, _, .inr (.inl ⟨by omega, hr, rfl, rfl⟩)⟩
theorem PackIs.lt {l : List Int} {B : List Nat} {c : Nat} (h : PackIs l B c) : ∀ x ∈ B, x < 256 := by
  rcases h with ⟨_, rfl, _⟩ | ⟨_, _, rfl, _⟩ | ⟨_, _, rfl, _⟩
  · simp
  · simp
  · exact pack_lt _
theorem PackIs.len {l : List Int} {B : List Nat} {c : Nat} (h : PackIs l B c) : B.length ≤ 40000 := by
  rcases h with ⟨_, rfl, _⟩ | ⟨_, _, rfl, _⟩ | ⟨h1, _, rfl, _⟩
  · simp
  · simp
  · have := times_len l l.length; omega
def PackPost (w : World) (F : List HProp) (B : List Nat) (c : Nat) (e : Ending) (w' : World) : Prop :=
  ∃ v', e = .returned (.tuple #[v', .int .i64 (c : Nat)]) ∧ Holds w' (own 5 1 v' B.length (bv B) :: F) ∧ Str w w'
theorem tPack_is (v : Value) (l : List Int) {B : List Nat} {c : Nat} (h : PackIs l B c) (w : World) (F : List HProp) (H : Holds w F) (hv : Sees F 1 v l.length (iv l)) (hI : I64 l) :
    Calls Tryz.prog 14 #[v] w (PackPost w F B c) := by
  rcases h with ⟨h1, rfl, rfl⟩ | ⟨h1, h2, rfl, rfl⟩ | ⟨h1, h2, rfl, rfl⟩
  · exact (tPack_many v l w F H hv h1).mono fun e w' ⟨he, H', S'⟩ => ⟨_, he, H'.own_nil, S'⟩
  · exact (tPack_bad v l w F H hv h1 hI h2).mono fun e w' ⟨he, H', S'⟩ => ⟨_, he, H'.own_nil, S'⟩
  · exact (tPack_ok v l w F H hv h1 hI h2).mono fun e w' ⟨v', he, H', S'⟩ => ⟨v', he, H', S'⟩
theorem dPack_is (v : Value) (l : List Int) {B : List Nat} {c : Nat} (h : PackIs l B c) (w : World) (F : List HProp) (H : Holds w F) (hv : Sees F 1 v l.length (iv l)) (hI : I64 l) :
    Calls Tryz.prog 17 #[v] w (PackPost w F B c) := by
  rcases h with ⟨h1, rfl, rfl⟩ | ⟨h1, h2, rfl, rfl⟩ | ⟨h1, h2, rfl, rfl⟩
  · exact (dPack_many v l w F H hv h1).mono fun e w' ⟨he, H', S'⟩ => ⟨_, he, H'.own_nil, S'⟩
  · exact (dPack_bad v l w F H hv h1 h2).mono fun e w' ⟨he, H', S'⟩ => ⟨_, he, H'.own_nil, S'⟩
  · exact (dPack_ok v l w F H hv h1 hI h2).mono fun e w' ⟨v', he, H', S'⟩ => ⟨v', he, H', S'⟩
/-- What unpacking makes of bytes, and its number. -/
def UnpackIs (B : List Nat) (n : Int) (m : List Int) (c : Nat) : Prop :=
  ((n < 0 ∨ 4096 < n) ∧ m = [] ∧ c = 60) ∨ ∃ k : Nat, n = k ∧ k ≤ 4096 ∧ ((tGet ⟨unpack B, 0⟩ k = none ∧ m = [] ∧ c = 62) ∨ (tGet ⟨unpack B, 0⟩ k = some m ∧ c = 0))
theorem unpackIs (B : List Nat) (n : Int) : ∃ m c, UnpackIs B n m c := by
  by_cases h : n < 0 ∨ 4096 < n
  · exact ⟨_, _, .inl ⟨h, rfl, rfl⟩⟩
  · cases hg : tGet ⟨unpack B, 0⟩ n.toNat with
    | none => exact ⟨_, _, .inr ⟨n.toNat, by omega, by omega, .inl ⟨hg, rfl, rfl⟩⟩⟩
    | some m => exact ⟨m, _, .inr ⟨n.toNat, by omega, by omega, .inr ⟨hg, rfl⟩⟩⟩
theorem UnpackIs.len {B : List Nat} {n : Int} {m : List Int} {c : Nat} (h : UnpackIs B n m c) (hB : ∀ x ∈ B, x < 256) : m.length ≤ 4096 := by
  rcases h with ⟨_, rfl, _⟩ | ⟨k, _, hk, ⟨_, rfl, _⟩ | ⟨hg, _⟩⟩
  · simp
  · simp
  · rw [(tGet_front hB hg).1]; exact hk
def UnpPost (w : World) (F : List HProp) (m : List Int) (c : Nat) (e : Ending) (w' : World) : Prop :=
  ∃ v', e = .returned (.tuple #[v', .int .i64 (c : Nat)]) ∧ Holds w' (own 2 1 v' m.length (iv m) :: F) ∧ Str w w'
theorem unpPost_of {w : World} {F : List HProp} {B : List Nat} {k : Nat} {m : List Int} {c : Nat} (h : (tGet ⟨unpack B, 0⟩ k = none ∧ m = [] ∧ c = 62) ∨ (tGet ⟨unpack B, 0⟩ k = some m ∧ c = 0)) {e : Ending} {w' : World} (hp : UnpackPost w F (tGet ⟨unpack B, 0⟩ k) e w') : UnpPost w F m c e w' := by
  rcases h with ⟨hg, rfl, rfl⟩ | ⟨hg, rfl⟩
  · rw [hg] at hp
    obtain ⟨he, H', S'⟩ := hp
    exact ⟨_, he, H'.own_nil, S'⟩
  · rw [hg] at hp
    exact hp
theorem tUnpack_is (v : Value) (B : List Nat) (n : Int) {m : List Int} {c : Nat} (h : UnpackIs B n m c) (w : World) (F : List HProp) (H : Holds w F) (hv : Sees F 1 v B.length (bv B)) (hB : ∀ x ∈ B, x < 256) (hl : B.length ≤ 1000000000000) :
    Calls Tryz.prog 23 #[v, .int .i64 n] w (UnpPost w F m c) := by
  rcases h with ⟨h1, rfl, rfl⟩ | ⟨k, rfl, hk, h⟩
  · exact (tUnpack_many v n w F H h1).mono fun e w' ⟨he, H', S'⟩ => ⟨_, he, H'.own_nil, S'⟩
  · exact (tUnpack_c v B k w F H (hv w H) hB hl hk).mono fun e w' hp => unpPost_of h hp
theorem dUnpack_is (v : Value) (B : List Nat) (n : Int) {m : List Int} {c : Nat} (h : UnpackIs B n m c) (w : World) (F : List HProp) (H : Holds w F) (hv : Sees F 1 v B.length (bv B)) (hB : ∀ x ∈ B, x < 256) (hl : B.length ≤ 1000000000000) :
    Calls Tryz.prog 24 #[v, .int .i64 n] w (UnpPost w F m c) := by
  rcases h with ⟨h1, rfl, rfl⟩ | ⟨k, rfl, hk, h⟩
  · exact (dUnpack_many v n w F H h1).mono fun e w' ⟨he, H', S'⟩ => ⟨_, he, H'.own_nil, S'⟩
  · exact (dUnpack_c v B k w F H hv hB hl hk).mono fun e w' hp => unpPost_of h hp

set_option maxRecDepth 100000 in
set_option maxHeartbeats 4000000 in
theorem packs_c (v : Value) (d : Nat) (l : List Int) (es : List Lt) (w : World) (F : List HProp) (H : Holds w (lateL d es :: F)) (hv : Sees F 1 v l.length (iv l)) (hI : I64 l) (hl : l.length ≤ 1000000) (hes : es.length ≤ 90000) :
    Calls Tryz.prog 4 #[v, .pointer (some ⟨d, 0, none⟩)] w (fun e w' => e = .returned (.bool true) ∧ ∃ es' : List Lt, (es'.length = es.length + 2 ∧ ∀ e ∈ es', e ∈ es ∨ e.B.length ≤ 40000) ∧ Holds w' (lateL d es' :: F) ∧ Str w w') := by
  obtain ⟨B, c, hBc⟩ := packIs l
  have hlt := hBc.lt
  have hln := hBc.len
  replace hBc := Lib.hid hBc
  go_enter Tryz.func4, Tryz.ntmps4
  go_wp2_with (go_at_call 13; refine (LendTimes_c v l _ _ H hv.cons (by omega)).mono ?_; rintro e w1 ⟨vi, rfl, H1, S1⟩)
  have hs1 : ∀ F', Sees (lentT vi l :: F') 1 vi l.length (iv l) := fun F' w h => lentT_is h
  go_wp2_with (go_at_call 14; (with_reducible refine (tPack_is vi l hBc.out _ _ H1 (hs1 _) hI).mono ?_); rintro e w2 ⟨va, rfl, H2, S2⟩)
  go_wp2_with (go_at_call 14; (with_reducible refine (tPack_is vi l hBc.out _ _ H2 (hs1 _).cons hI).mono ?_); rintro e w3 ⟨vb, rfl, H3, S3⟩)
  have H3' := Holds.ord (l := [_, _, _, _]) H3 [2, 0, 1, 3] rfl
  simp only [List.map, List.getD_cons_zero, List.getD_cons_succ, List.cons_append, List.nil_append] at H3'
  go_wp2_with (go_at_call 15; refine (BackTimes_c vi v l _ _ H3' hv.cons.cons.cons (by omega)).mono ?_; rintro e w4 ⟨rfl, H4, S4⟩)
  go_wp2_with (go_at_call 16; refine (OverTimes_c vi l _ _ H4 (by omega)).mono ?_; rintro e w5 ⟨rfl, H5, S5⟩)
  go_wp2_with (go_at_call 17; refine (dPack_is v l hBc.out _ _ H5 hv.cons.cons.cons hI).mono ?_; rintro e w6 ⟨vx, rfl, H6, S6⟩)
  have H6' := Holds.ord (l := [_, _, _, _]) H6 [3, 2, 0, 1] rfl
  simp only [List.map, List.getD_cons_zero, List.getD_cons_succ, List.cons_append, List.nil_append] at H6'
  go_wp2_with (go_at_call 18; (with_reducible refine (lateAdd_c d es va vx B _ _ H6' sees_own hlt (by omega) (by omega)).mono ?_); rintro e w7 ⟨rfl, u7, H7, S7⟩)
  have H7' := Holds.ord (l := [_, _, _]) H7 [0, 2, 1] rfl
  simp only [List.map, List.getD_cons_zero, List.getD_cons_succ, List.cons_append, List.nil_append] at H7'
  go_wp2_with (go_at_call 18; (with_reducible refine (lateAdd_c d _ vb vx B _ _ H7' sees_own hlt (by rw [List.length_append, List.length_singleton]; omega) (by omega)).mono ?_); rintro e w8 ⟨rfl, u8, H8, S8⟩)
  obtain ⟨es2, he2⟩ : ∃ es2, es2 = es ++ [⟨va, u7, B⟩] ++ [⟨vb, u8, B⟩] := ⟨_, rfl⟩
  rw [← he2] at H8
  have hm1 : (⟨va, u7, B⟩ : Lt) ∈ es2 := by rw [he2]; simp
  have hm2 : (⟨vb, u8, B⟩ : Lt) ∈ es2 := by rw [he2]; simp
  have hend : es2.length = es.length + 2 ∧ ∀ e ∈ es2, e ∈ es ∨ e.B.length ≤ 40000 := by
    rw [he2]
    refine ⟨by simp, fun e he => ?_⟩
    simp only [List.mem_append, List.mem_singleton] at he
    rcases he with (he | he) | he
    · exact .inl he
    · exact .inr (by rw [he]; exact hln)
    · exact .inr (by rw [he]; exact hln)
  replace he2 := Lib.hid he2
  replace hend := Lib.hid hend
  obtain ⟨vl, ul, H9⟩ := lateL_open H8
  have H10 := Holds.ord (l := [_, _, _, _]) H9 [3, 0, 1, 2] rfl
  have i1 : SliceIs w8 1 va B.length (bv B) := (two_is H10 hm1).1
  have i2 : SliceIs w8 1 vb B.length (bv B) := (two_is H10 hm2).1
  have i3 : SliceIs w8 1 vx B.length (bv B) := H8.swap.own_is
  obtain ⟨a1, k1, rfl⟩ := slice_shape' i1
  obtain ⟨a2, k2, rfl⟩ := slice_shape' i2
  obtain ⟨a3, k3, rfl⟩ := slice_shape' i3
  have g1 := conv_str (P := Tryz.prog) Tryz.underlying57 Tryz.underlying5 Tryz.underlying9 i1
  have g2 := conv_str (P := Tryz.prog) Tryz.underlying57 Tryz.underlying5 Tryz.underlying9 i2
  have g3 := conv_str (P := Tryz.prog) Tryz.underlying57 Tryz.underlying5 Tryz.underlying9 i3
  obtain ⟨sB, hsB⟩ : ∃ sB, sB = bstr B := ⟨_, rfl⟩
  rw [← hsB] at g1 g2 g3
  clear H1 H2 H3 H3' H4 H5 H6 H6' H7 H7' H9 H10 hm1 hm2 i1 i2 i3 hs1 hsB
  replace H8 := Lib.hid H8
  go_wp2_with (go_at_call 19; refine (num6_c _ _).mono ?_; rintro e w9 ⟨rfl, hw9⟩; obtain rfl := hw9.symm)
  go_ret
  exact ⟨rfl, es2, hend.out, H8.out.swap.tail, ((((((S1.trans S2).trans S3).trans S4).trans S5).trans S6).trans S7).trans S8⟩

set_option maxRecDepth 100000 in
set_option maxHeartbeats 4000000 in
theorem unpacks_c (vi vb : Value) (B : List Nat) (n : Int) (bk T : Nat) (w : World) (F : List HProp) (H : Holds w (bookS bk T :: F)) (hi : Sees F 1 vi B.length (bv B)) (hb : Sees F 1 vb B.length (bv B)) (hB : ∀ x ∈ B, x < 256) (hl : B.length ≤ 1000000000000) (hT : T ≤ 800000000000) :
    Calls Tryz.prog 7 #[vi, vb, .int .i64 n, .pointer (some ⟨bk, 0, none⟩)] w (Ret w (.bool true) (bookS bk (T + 2) :: F)) := by
  obtain ⟨m, c, hmc⟩ := unpackIs B n
  have hml := hmc.len hB
  replace hmc := Lib.hid hmc
  go_enter Tryz.func7, Tryz.ntmps7
  go_wp2_with (go_at_call 23; (with_reducible refine (tUnpack_is vi B n hmc.out _ _ H hi.cons hB hl).mono ?_); rintro e w1 ⟨vx, rfl, H1, S1⟩)
  go_wp2_with (go_at_call 23; (with_reducible refine (tUnpack_is vi B n hmc.out _ _ H1 hi.cons.cons hB hl).mono ?_); rintro e w2 ⟨vy, rfl, H2, S2⟩)
  go_wp2_with (go_at_call 24; refine (dUnpack_is vb B n hmc.out _ _ H2 hb.cons.cons.cons hB hl).mono ?_; rintro e w3 ⟨vw, rfl, H3, S3⟩)
  go_wp2_with (first | (go_at_call 19; refine (num6_c _ _).mono ?_; rintro e w9 ⟨rfl, hw9⟩; obtain rfl := hw9.symm) | fail)
  refine (same6_c vx vw m m _ H3.pull2.own_is H3.own_is (by omega)).mono ?_
  rintro e w4 ⟨rfl, n4, rfl⟩
  rw [decide_eq_true rfl]
  have H4 := H3.drewN n4
  have S4 := ((S1.trans S2).trans S3).drewN n4
  generalize w3.drewN n4 = w4 at H4 S4 ⊢
  go_wp2_with fail
  refine (same6_c vy vw m m _ H4.swap.own_is H4.own_is (by omega)).mono ?_
  rintro e w5 ⟨rfl, n5, rfl⟩
  rw [decide_eq_true rfl]
  have H5 := H4.drewN n5
  have S5 := S4.drewN n5
  generalize w4.drewN n5 = w5 at H5 S5 ⊢
  have H5' := Holds.ord (l := [_, _, _, _]) H5 [3, 2, 0, 1] rfl
  simp only [List.map, List.getD_cons_zero, List.getD_cons_succ, List.cons_append, List.nil_append] at H5'
  go_wp2_with (go_at_call 26; (with_reducible refine (bkTimes_c bk T vx _ _ _ _ H5' (by omega) (by omega)).mono ?_); rintro e w6 ⟨rfl, H6, S6⟩)
  refine (same6_c vy vw m m _ H6.pull2.own_is H6.swap.own_is (by omega)).mono ?_
  rintro e w7 ⟨rfl, n7, rfl⟩
  rw [decide_eq_true rfl]
  have H7 := H6.drewN n7
  have S7 := (S5.trans S6).drewN n7
  generalize w6.drewN n7 = w7 at H7 S7 ⊢
  have H7' := Holds.ord (l := [_, _, _]) H7 [0, 2, 1] rfl
  simp only [List.map, List.getD_cons_zero, List.getD_cons_succ, List.cons_append, List.nil_append] at H7'
  go_wp2_with (go_at_call 26; (with_reducible refine (bkTimes_c bk (T + 1) vy _ _ _ _ H7' (by omega) (by omega)).mono ?_); rintro e w8 ⟨rfl, H8, S8⟩)
  go_ret
  exact ⟨rfl, H8.swap.tail, S7.trans S8⟩
end Go.Proofs.YtakaolcajbhkiaaGreat
