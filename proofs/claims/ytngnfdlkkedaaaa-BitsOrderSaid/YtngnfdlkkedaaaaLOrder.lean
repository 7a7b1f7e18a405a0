/- The law BitsOrder, walked: it returns true. -/
import Derived.Test.YtngnfdlkkedaaaaLW
namespace Go.Proofs.Ytngnfdlkkedaaaa
open Go.RowKit Go.SL Go.Fm

theorem order_zig (a : Nat) (h : a < 18446744073709551616) : zigzag ((a / 2 : Nat) : Int) = a / 2 * 2 := by unfold zigzag; split <;> omega

theorem order_len (a b : Nat) (ha : a < 18446744073709551616) (hb : b < 18446744073709551616) (h : a ≤ b) :
    ((⟨[], 0⟩ : Ws).var a).L.length ≤ ((⟨[], 0⟩ : Ws).var b).L.length ∧ ((⟨[], 0⟩ : Ws).var a).L.length % 8 = 0 ∧ 8 ≤ ((⟨[], 0⟩ : Ws).var a).L.length ∧ ((⟨[], 0⟩ : Ws).var b).L.length ≤ 80 ∧
      ((⟨[], 0⟩ : Ws).zig ((a / 2 : Nat) : Int)).L.length = ((⟨[], 0⟩ : Ws).var (a / 2 * 2)).L.length := by
  have h1 := length_varBits64 a ha
  have h2 := length_varBits64 b hb
  refine ⟨length_varBits_mono b a h, h1.1, h1.2.1, h2.2.2, ?_⟩
  unfold Ws.zig
  rw [order_zig a ha]

set_option maxRecDepth 100000 in
set_option maxHeartbeats 2000000 in
theorem BitsOrder_c (v : Value) (l : List Nat) (w : World) (F : List HProp) (H : Holds w F) (hs : Sees F 1 v l.length (uv l)) (hl : ∀ x ∈ l, x < 18446744073709551616) (_hn : l.length ≤ maxLen) :
    Calls Try.prog 3 #[v] w (Ret w (.bool true) F) := by
  have hsh : ∃ a c, v = .slice a l.length c := by
    rcases (hs w H).2 with ⟨h, h'⟩ | ⟨a, c, h, _⟩
    · rw [h']; exact ⟨_, _, h⟩
    · exact ⟨_, _, h⟩
  obtain ⟨a0, cap0, hv⟩ := hsh
  rw [hv] at hs ⊢
  clear hv
  go_enter Try.func3, Try.ntmps3
  go_wp2
  go_loopw [3] (fun s3 wr => ∃ (k : Nat), 1 ≤ k ∧ k ≤ 1000 ∧ s3 = .int .i64 k ∧ Holds wr F ∧ Str w wr) (fun s3 _ => (1001 - intOf s3).toNat)
  case atStart => exact ⟨1, by omega, by omega, rfl, H, Str.refl w⟩
  case round =>
    obtain ⟨k, hk1, hkl, rfl, Hr, Sr⟩ := hrel
    by_cases hkn : k < l.length ∧ k < 1000
    · obtain ⟨hkn, hk1000⟩ := hkn
      obtain ⟨g, off, cap, hv, hcap, hcm, hcell⟩ := (hs wr Hr).at (by omega)
      have hcap' := hcm
      unfold maxLen at hcap'
      simp only [Value.slice.injEq] at hv
      obtain ⟨rfl, _, rfl⟩ := hv
      have ck := hcell k _ (uv_at hkn)
      have ck1 := hcell (k - 1) _ (uv_at (by omega))
      have hx := hl _ (List.getElem_mem hkn)
      have hy := hl _ (List.getElem_mem (show k - 1 < l.length by omega))
      clear hcell
      generalize l[k] = x at *
      generalize l[k - 1] = y at *
      have HH := (new_writer (new_writer (new_writer (new_writer Hr)))).pull3
      simp only [World.size_alloc] at HH
      by_cases hxy : x < y
      · go_upto_region 13 with fail
        go_wp2_with fail
        refine (wVar_c _ x _ _ _ HH hx (by decide)).mono ?_
        rintro e w1 ⟨rfl, H1, S1⟩
        replace H1 := H1.pull3
        go_wp2_with fail
        refine (wVar_c _ y _ _ _ H1 hy (by decide)).mono ?_
        rintro e w2 ⟨rfl, H2, S2⟩
        replace H2 := H2.pull3
        go_wp2_with fail
        rw [show (x : Int) / 2 = ((x / 2 : Nat) : Int) by omega]
        refine (wZig_c _ _ _ _ _ H2 (by omega) (by omega) (by decide)).mono ?_
        rintro e w3 ⟨rfl, H3, S3⟩
        replace H3 := H3.pull3
        go_wp2_with fail
        rw [show (x : Int) / 2 * 2 = ((x / 2 * 2 : Nat) : Int) by omega]
        refine (wVar_c _ _ _ _ _ H3 (by omega) (by decide)).mono ?_
        rintro e w4 ⟨rfl, H4, S4⟩
        have n1 := wLen_c _ _ w4 _ H4
        have n2 := wLen_c _ _ w4 _ H4.swap
        have n3 := wLen_c _ _ w4 _ H4.pull2
        have n4 := wLen_c _ _ w4 _ H4.pull3
        obtain ⟨f1, f2, f3, f4, f5⟩ := order_len x y hx hy (by omega)
        generalize (({ L := [], bad := 0 } : Ws).var x) = s1 at *
        generalize (({ L := [], bad := 0 } : Ws).var y) = s2 at *
        generalize (({ L := [], bad := 0 } : Ws).zig ((x / 2 : Nat) : Int)) = s3 at *
        generalize (({ L := [], bad := 0 } : Ws).var (x / 2 * 2)) = s4 at *
        rw [← f5] at n1
        replace f5 := Lib.hid f5
        replace f2 : ((s1.L.length : Int) % 8 != 0) = false := by simp; omega
        replace n1 := Lib.hid n1
        replace n2 := Lib.hid n2
        replace n3 := Lib.hid n3
        replace n4 := Lib.hid n4
        go_wp2_with (first | (go_at_call 11; (with_reducible refine n1.out.mono ?_); rintro e w' ⟨rfl, rfl⟩) | (go_at_call 11; (with_reducible refine n2.out.mono ?_); rintro e w' ⟨rfl, rfl⟩) | (go_at_call 11; (with_reducible refine n3.out.mono ?_); rintro e w' ⟨rfl, rfl⟩) | (go_at_call 11; (with_reducible refine n4.out.mono ?_); rintro e w' ⟨rfl, rfl⟩))
        go_roundw
        case rel => exact ⟨k + 1, by omega, by omega, by congr 1, H4.tail.tail.tail.tail, (((((((Sr.alloc _).alloc _).alloc _).alloc _).trans S1).trans S2).trans S3).trans S4⟩
        case measure => simp [intOf]; omega
      · go_upto_region 13 with fail
        go_wp2_with fail
        refine (wVar_c _ y _ _ _ HH hy (by decide)).mono ?_
        rintro e w1 ⟨rfl, H1, S1⟩
        replace H1 := H1.pull3
        go_wp2_with fail
        refine (wVar_c _ x _ _ _ H1 hx (by decide)).mono ?_
        rintro e w2 ⟨rfl, H2, S2⟩
        replace H2 := H2.pull3
        go_wp2_with fail
        rw [show (y : Int) / 2 = ((y / 2 : Nat) : Int) by omega]
        refine (wZig_c _ _ _ _ _ H2 (by omega) (by omega) (by decide)).mono ?_
        rintro e w3 ⟨rfl, H3, S3⟩
        replace H3 := H3.pull3
        go_wp2_with fail
        rw [show (y : Int) / 2 * 2 = ((y / 2 * 2 : Nat) : Int) by omega]
        refine (wVar_c _ _ _ _ _ H3 (by omega) (by decide)).mono ?_
        rintro e w4 ⟨rfl, H4, S4⟩
        have n1 := wLen_c _ _ w4 _ H4
        have n2 := wLen_c _ _ w4 _ H4.swap
        have n3 := wLen_c _ _ w4 _ H4.pull2
        have n4 := wLen_c _ _ w4 _ H4.pull3
        obtain ⟨f1, f2, f3, f4, f5⟩ := order_len y x hy hx (by omega)
        generalize (({ L := [], bad := 0 } : Ws).var y) = s1 at *
        generalize (({ L := [], bad := 0 } : Ws).var x) = s2 at *
        generalize (({ L := [], bad := 0 } : Ws).zig ((y / 2 : Nat) : Int)) = s3 at *
        generalize (({ L := [], bad := 0 } : Ws).var (y / 2 * 2)) = s4 at *
        rw [← f5] at n1
        replace f5 := Lib.hid f5
        replace f2 : ((s1.L.length : Int) % 8 != 0) = false := by simp; omega
        replace n1 := Lib.hid n1
        replace n2 := Lib.hid n2
        replace n3 := Lib.hid n3
        replace n4 := Lib.hid n4
        go_wp2_with (first | (go_at_call 11; (with_reducible refine n1.out.mono ?_); rintro e w' ⟨rfl, rfl⟩) | (go_at_call 11; (with_reducible refine n2.out.mono ?_); rintro e w' ⟨rfl, rfl⟩) | (go_at_call 11; (with_reducible refine n3.out.mono ?_); rintro e w' ⟨rfl, rfl⟩) | (go_at_call 11; (with_reducible refine n4.out.mono ?_); rintro e w' ⟨rfl, rfl⟩))
        go_roundw
        case rel => exact ⟨k + 1, by omega, by omega, by congr 1, H4.tail.tail.tail.tail, (((((((Sr.alloc _).alloc _).alloc _).alloc _).trans S1).trans S2).trans S3).trans S4⟩
        case measure => simp [intOf]; omega
    · by_cases hkl : k < l.length
      all_goals
        go_wp2_with (go_at_call 12; refine (works_c _ _ Hr).mono ?_; rintro e w' ⟨rfl, H', S'⟩)
        refine bodyPost_ret (results_tmp rfl _ _ _) rfl ⟨rfl, H', Sr.trans S'⟩
end Go.Proofs.Ytngnfdlkkedaaaa
