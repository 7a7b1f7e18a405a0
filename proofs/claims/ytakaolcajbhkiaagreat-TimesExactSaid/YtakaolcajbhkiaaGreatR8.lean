/- The document's reader of bits: From. -/
import Derived.Test.YtakaolcajbhkiaaGreatR3
import Derived.Test.YtakaolcajbhkiaaGreatR2
import Derived.Test.YtakaolcajbhkiaaGreatSL2
namespace Go.Fm
set_option linter.unusedVariables false
set_option linter.unusedSimpArgs false
theorem bitsOf_get (X : Nat) : ∀ n i, i < n → (bitsOf X n)[i]? = some (X.testBit (n - 1 - i)) := by
  intro n
  induction n with
  | zero => intro i h; omega
  | succ n ih =>
    intro i h
    cases i with
    | zero => simp [bitsOf]
    | succ i =>
      simp only [bitsOf, List.getElem?_cons_succ]
      rw [ih i (by omega)]
      congr 2
      omega
theorem unpack_get (B : List Nat) (j : Nat) (h : j / 8 < B.length) : (unpack B)[j]? = some (B[j / 8].testBit (7 - j % 8)) := by
  have e1 : (unpack B)[j]? = ((unpack B).drop (8 * (j / 8)))[j % 8]? := by
    rw [List.getElem?_drop]
    congr 1
    omega
  rw [e1, unpack_drop, List.drop_eq_getElem_cons h, unpack_cons, List.getElem?_append_left (by rw [length_bitsOf]; omega), bitsOf_get _ _ _ (by omega)]
end Go.Fm
namespace Go.Proofs.YtakaolcajbhkiaaGreat
set_option linter.unusedVariables false
set_option linter.unusedSimpArgs false
open Go.RowKit Go.SL Go.Fm

theorem rfrom_word (X e : Nat) : ((X : Int) / 2 ^ e).tmod 2 = ((X.testBit e).toNat : Nat) := by
  rw [rcast_bit]
theorem rfrom_rel {B : List Nat} {j : Nat} {w : World} {F : List HProp} {T : TypeId} {k : Nat} {a : Option Addr} {c : Nat} {v0 : Value} (hq : j / 8 < B.length)
    (H : Holds w (own 5 1 (.slice a (j + 1) c) (j + 1) (bv (nums ((unpack B).take j)) ++ [.int .u8 ((((B[j / 8] : Nat) : Int) / 2 ^ (7 - j % 8)).tmod 2)]) :: pts k (.cells #[v0, .int .i64 0] T (0, 0)) :: F)) :
    Holds (w.setCell ⟨k, 0, none⟩ (.slice a (j + 1) c)) (own 5 1 (.slice a (j + 1) c) (j + 1) (bv (nums ((unpack B).take (j + 1)))) :: pts k (.cells #[.slice a (j + 1) c, .int .i64 0] T (0, 0)) :: F) := by
  have hl : j < (unpack B).length := by rw [length_unpack]; omega
  have hg := unpack_get B j hq
  rw [List.getElem?_eq_getElem hl] at hg
  simp only [Option.some.injEq] at hg
  have e : bv (nums ((unpack B).take (j + 1))) = bv (nums ((unpack B).take j)) ++ [.int .u8 ((((B[j / 8] : Nat) : Int) / 2 ^ (7 - j % 8)).tmod 2)] := by
    rw [List.take_succ_eq_append_getElem hl, nums_append, bv_append, hg, rfrom_word]
    rfl
  rw [e]
  exact (H.swap.store 0 _).swap

set_option maxRecDepth 100000 in
set_option maxHeartbeats 2000000 in
theorem rrFrom_c (v : Value) (B : List Nat) (w : World) (F : List HProp) (H : Holds w F) (hv : Sees F 1 v B.length (bv B)) (hB : ∀ x ∈ B, x < 256) (hl : B.length ≤ 1000000000000) :
    Calls Tryz.prog 43 #[v] w (fun e w' => ∃ rb, e = .returned (.pointer (some ⟨rb, 0, none⟩)) ∧ Holds w' (qS rb ⟨unpack B, 0⟩ :: F) ∧ Str w w') := by
  obtain ⟨i1, hj, hy0, hy1, hy2⟩ := info_parts info_u8
  obtain ⟨a0, c0, rfl⟩ : ∃ a c, v = .slice a B.length c := by
    rcases (hv w H).2 with ⟨h, h'⟩ | ⟨a, c, h, _⟩
    · rw [h, h']; exact ⟨_, _, rfl⟩
    · exact ⟨_, _, h⟩
  have HB := H.alloc (.cells #[.slice none 0 0, .int .i64 0] 114)
  have H0 := Holds.own_nil (E := 5) (s := 1) HB
  go_enter Tryz.func43, Tryz.ntmps43
  go_wp2
  go_loopw [4] (fun s4 wl => ∃ (j : Nat) (vL : Value), j ≤ 8 * B.length ∧ s4 = .int .i64 j ∧ Holds wl (own 5 1 vL j (bv (nums ((unpack B).take j))) :: pts w.heap.size (.cells #[vL, .int .i64 0] 114 (0, 0)) :: F) ∧ Str w wl) (fun s4 _ => (8 * B.length - intOf s4).toNat)
  case atStart => exact ⟨0, _, by omega, rfl, H0, (Str.refl w).alloc _⟩
  case round =>
    clear HB H0
    obtain ⟨j, vL, hj8, rfl, Hr, Sr⟩ := hrel
    by_cases hjn : j < 8 * B.length
    · obtain ⟨g, off, cap, hv1, hcap, hcm, hc⟩ := (hv _ Hr.tail.tail).at (by omega)
      simp only [Value.slice.injEq] at hv1
      obtain ⟨rfl, _, rfl⟩ := hv1
      have hq : j / 8 < B.length := by omega
      have d1 := hc (j / 8) _ (bv_at hq)
      have e0 := Hr.swap.cell 0
      have z0 := Hr.swap.free 0
      simp at e0
      go_upto_region 5 with fail
      clear hc
      have hlt := Hr.swap.lt
      have hne : w.heap.size ≠ wr.heap.size := by omega
      have w1 : IntKind.i64.wrap ((j : Int) / 8) = (j : Int) / 8 := IntWalk.i64_in _ (by omega)
      have w2 : (j : Int).tmod 8 = (j : Int) % 8 := Int.tmod_eq_emod_of_nonneg (by omega)
      have w4 : (0 : Int) ≤ (j : Int) / 8 := by omega
      have w5 : (j : Int) / 8 < (B.length : Int) := by omega
      have w7 : ((j : Int) / 8).toNat = j / 8 := by omega
      have w3 : IntKind.i64.wrap (7 - (j : Int) % 8) = 7 - (j : Int) % 8 := IntWalk.i64_in _ (by omega)
      have w6 : IntKind.u64.wrap (7 - (j : Int) % 8) = 7 - (j : Int) % 8 := IntWalk.u64_in _ (by omega)
      have w8 : (0 : Int) ≤ 7 - (j : Int) % 8 := by omega
      have w9 : (7 - (j : Int) % 8).toNat = 7 - j % 8 := by omega
      have hbig : (j + 1) * 1 ≤ 140737488355328 := by omega
      have hmax : j + 1 ≤ maxLen := by unfold maxLen; omega
      go_region_law ((refine step_append_sl rfl _ _ _ rfl i1 (.int .u8 0) Tryz.underlying57 hj hy0 hy1 hy2 rfl (by decide) rfl rfl (Hr.drew.alloc' _) (m := 1) (slice_new wr.drew _ _ _ 1 1 rfl (by decide)) (by simp [Value.oneCell']) hbig hmax ?_; intro v8 w8 H8 S8; obtain ⟨a8, k8, rfl⟩ := own_shape H8; have e8 := H8.swap.cell 0; have f8 := H8.swap.free 0; simp at e8))
      all_goals
        go_wp2_with fail
        go_roundw
        case rel => exact ⟨j + 1, _, by omega, by congr 1, rfrom_rel hq H8, (Sr.drew.alloc _).trans S8 |>.setCell _ _⟩
        case measure => (simp [intOf] <;> omega)
    · obtain rfl : j = 8 * B.length := by omega
      go_wp2_with fail
      go_ret
      refine ⟨_, rfl, ?_, Sr⟩
      refine qS_shut (v := vL) (L := unpack B) (bad := 0) rfl rfl ?_
      rw [List.take_of_length_le (by rw [length_unpack]; exact Nat.le_refl _)] at Hr
      rw [length_unpack]
      exact part_of_own Hr |>.swap
end Go.Proofs.YtakaolcajbhkiaaGreat
