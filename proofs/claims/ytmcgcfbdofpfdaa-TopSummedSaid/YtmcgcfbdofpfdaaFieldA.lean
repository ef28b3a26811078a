/- The walks of the field's functions: sums, powers, inverses, quotients; the statement's own powers and inverses. -/
import Derived.Test.YtmcgcfbdofpfdaaGfN
namespace Go.Proofs.Ytmcgcfbdofpfdaa
open Go.RowKit
theorem b_eq0 (a : UInt8) : (b8 a == 0) = decide (a = 0) := by
  rw [Bool.eq_iff_iff, beq_iff_eq, decide_eq_true_eq]; exact u8_inj (b := 0)
theorem b_eq1 (a : UInt8) : (b8 a == 1) = decide (a = 1) := by
  rw [Bool.eq_iff_iff, beq_iff_eq, decide_eq_true_eq]; exact u8_inj (b := 1)
attribute [local go_sem] b_xor b_eq0 b_eq1 u8_u8
theorem plus_c (a b : UInt8) (w : World) : Calls Try.prog 20 #[.int .u8 (b8 a), .int .u8 (b8 b)] w fun e w' => e = .returned (.int .u8 (b8 (a ^^^ b))) ∧ w = w' := by
  go_enter Try.func20, Try.ntmps20
  go_wp2
  go_ret
  exact ⟨rfl, rfl⟩
theorem isz_c (a : UInt8) (w : World) : Calls Try.prog 23 #[.int .u8 (b8 a)] w fun e w' => e = .returned (.bool (decide (a = 0))) ∧ w = w' := by
  go_enter Try.func23, Try.ntmps23
  go_wp2
  go_ret
  exact ⟨rfl, rfl⟩
/-- A power, of whatever exponent. -/
def gpowz (a : UInt8) (n : Int) : UInt8 := if n = 0 then 1 else if a = 0 then 0 else gpow a (n % 255).toNat
theorem tmod255 (n : Int) : (if n.tmod 255 < 0 then n.tmod 255 + 255 else n.tmod 255) = n % 255 := by
  rw [Int.tmod_eq_emod]
  split <;> rename_i h
  · split <;> omega
  · split <;> omega
theorem sq_odd (a p : UInt8) (k : Nat) (h : k % 2 = 1) : gmul p (gpow a k) = gmul (gmul p a) (gpow (gmul a a) (k / 2)) := by
  rw [gpow_sq, gmul_assoc]
  congr 1
  have : k = 1 + (k / 2 + k / 2) := by omega
  conv => lhs; rw [this, gpow_add]
  simp [gpow, one_gmul]
theorem sq_even (a p : UInt8) (k : Nat) (h : ¬ k % 2 = 1) : gmul p (gpow a k) = gmul p (gpow (gmul a a) (k / 2)) := by
  rw [gpow_sq]
  congr 2
  omega
set_option maxHeartbeats 1000000 in
theorem pow_c (a : UInt8) (n : Int) (w : World) (h1 : -9223372036854775808 ≤ n) (h2 : n ≤ 9223372036854775807) : Calls Try.prog 27 #[.int .u8 (b8 a), .int .i64 n] w fun e w' => e = .returned (.int .u8 (b8 (gpowz a n))) ∧ w = w' := by
  by_cases hn : n = 0
  · subst hn
    go_enter Try.func27, Try.ntmps27
    go_wp2
    go_ret
    exact ⟨by simp [gpowz, b8], rfl⟩
  by_cases ha : a = 0
  · subst ha
    have e1 : (n == 0) = false := by simpa using hn
    have HN := Lib.hid hn; clear hn
    go_enter Try.func27, Try.ntmps27
    go_wp2
    go_ret
    exact ⟨by simp [gpowz, HN.out, b8], rfl⟩
  have e1 : (n == 0) = false := by simpa using hn
  have e2 : decide (a = 0) = false := by simpa using ha
  have ht := tmod255 n
  have hfin : Hid (gpowz a n = gpow a (n % 255).toNat) := Lib.hid (by simp [gpowz, hn, ha])
  have hb : -255 < n.tmod 255 ∧ n.tmod 255 < 255 := by rw [Int.tmod_eq_emod]; split <;> omega
  have hl : 0 ≤ n % 255 ∧ n % 255 < 255 := by omega
  clear hn ha
  generalize hk : n % 255 = k at ht hfin hl
  generalize hm : n.tmod 255 = m at ht hb
  clear hk
  by_cases hneg : m < 0
  all_goals
    simp only [hneg, if_true, if_false] at ht
    go_enter Try.func27, Try.ntmps27
    go_wp2
    clear hm ht
    try clear hneg
    go_loop [0, 1, 5] (fun x i p => ∃ (b q : UInt8) (j : Nat), x = .int .u8 (b8 b) ∧ i = .int .i64 (j : Int) ∧ p = .int .u8 (b8 q) ∧ j < 255 ∧ Hid (gmul q (gpow b j) = gpow a k.toNat)) (fun _ i _ => (intOf i).toNat)
    case atStart => exact ⟨a, 1, k.toNat, rfl, by rw [Int.toNat_of_nonneg hl.1], rfl, by omega, Lib.hid (one_gmul _)⟩
    case round =>
      obtain ⟨b, q, j, rfl, rfl, rfl, hj, HQ⟩ := hrel
      clear hl hb
      by_cases hpos : 0 < j
      · by_cases hodd : j % 2 = 1
        · have e3 : ((j : Int) % 2 == 1) = true := by rw [beq_iff_eq]; omega
          have HO := Lib.hid hodd; clear hodd
          go_wp2_with (go_at_call 21; with_reducible refine (times_c _ _ _).mono ?_; rintro e w' ⟨rfl, rfl⟩)
          refine ⟨⟨gmul b b, gmul q b, j / 2, rfl, by go_num, rfl, by omega, ?_⟩, by simp [intOf]; omega⟩
          rw [← sq_odd b q j HO.out]; exact HQ
        · have e3 : ((j : Int) % 2 == 1) = false := by rw [beq_eq_false_iff_ne]; omega
          have HO := Lib.hid hodd; clear hodd
          go_wp2_with (go_at_call 21; with_reducible refine (times_c _ _ _).mono ?_; rintro e w' ⟨rfl, rfl⟩)
          refine ⟨⟨gmul b b, q, j / 2, rfl, by go_num, rfl, by omega, ?_⟩, by simp [intOf]; omega⟩
          rw [← sq_even b q j HO.out]; exact HQ
      · obtain rfl : j = 0 := by omega
        go_wp2
        go_ret
        have hq := HQ.out
        rw [show gpow b 0 = 1 from rfl, gmul_one] at hq
        exact ⟨by rw [hfin.out, ← hq]; rfl, rfl⟩
theorem gpowz_nn (a : UInt8) (n : Nat) (h : a ≠ 0) : gpowz a n = gpow a n := by
  unfold gpowz
  split
  · have : n = 0 := by omega
    subst this; rfl
  · rw [← gpow_mod a h n]
    congr 1
theorem inverse_c (a : UInt8) (w : World) : Calls Try.prog 19 #[.int .u8 (b8 a)] w fun e w' => e = .returned (.tuple #[.int .u8 (b8 (if a = 0 then 0 else ginv a)), .bool (decide (a ≠ 0))]) ∧ w = w' := by
  by_cases ha : a = 0
  · have e2 : decide (a = 0) = true := by simpa using ha
    have HA := Lib.hid ha; clear ha
    go_enter Try.func19, Try.ntmps19
    go_wp2
    go_ret2
    exact ⟨by simp [HA.out, b8], rfl⟩
  · have e2 : decide (a = 0) = false := by simpa using ha
    have HA := Lib.hid ha; clear ha
    go_enter Try.func19, Try.ntmps19
    go_wp2_with (go_at_call 27; with_reducible refine (pow_c _ _ _ (by decide) (by decide)).mono ?_; rintro e w' ⟨rfl, rfl⟩)
    go_ret2
    exact ⟨by have := HA.out; simp [this, ginv]; exact congrArg b8 (gpowz_nn a 254 this), rfl⟩
/-- The quotient, and what is told. -/
theorem over_el_c (a b : UInt8) (w : World) : Calls Try.prog 18 #[.int .u8 (b8 a), .int .u8 (b8 b)] w fun e w' =>
    e = .returned (.tuple #[.int .u8 (b8 (if b = 0 then 0 else gmul a (ginv b))), .int .i64 (if b = 0 then 10 else 0)]) ∧ w = w' := by
  by_cases hb : b = 0
  · have e2 : decide (b ≠ 0) = false := by simpa using hb
    have HB := Lib.hid hb; clear hb
    go_enter Try.func18, Try.ntmps18
    go_wp2_with (go_at_call 19; with_reducible refine (inverse_c _ _).mono ?_; rintro e w' ⟨rfl, rfl⟩; rw [e2])
    go_ret2
    exact ⟨by simp [HB.out, b8], rfl⟩
  · have e2 : decide (b ≠ 0) = true := by simpa using hb
    have e3 : (if b = 0 then 0 else ginv b) = ginv b := by simp [hb]
    have HB := Lib.hid hb; clear hb
    go_enter Try.func18, Try.ntmps18
    go_wp2_with (first | (go_at_call 19; with_reducible refine (inverse_c _ _).mono ?_; rintro e w' ⟨rfl, rfl⟩; rw [e2, e3]) | (go_at_call 21; with_reducible refine (times_c _ _ _).mono ?_; rintro e w' ⟨rfl, rfl⟩))
    go_ret2
    exact ⟨by have := HB.out; simp [this], rfl⟩
theorem exp_c (n : Int) (w : World) (h1 : -9223372036854775808 ≤ n) (h2 : n ≤ 9223372036854775807) : Calls Try.prog 26 #[.int .i64 n] w fun e w' => e = .returned (.int .u8 (b8 (gpowz 2 n))) ∧ w = w' := by
  have h := pow_c 2 n w h1 h2
  rw [show b8 2 = 2 from rfl] at h
  have H := Lib.hid h; clear h
  go_enter Try.func26, Try.ntmps26
  go_wp2_with (go_at_call 27; with_reducible refine H.out.mono ?_; rintro e w' ⟨rfl, rfl⟩)
  go_ret
  exact ⟨rfl, rfl⟩
theorem power1_c (a : UInt8) (n : Int) (w : World) (h1 : -9223372036854775808 ≤ n) (h2 : n ≤ 9223372036854775807) : Calls Try.prog 25 #[.int .u8 (b8 a), .int .i64 n] w fun e w' => e = .returned (.int .u8 (b8 (gpow a n.toNat))) ∧ w = w' := by
  go_enter Try.func25, Try.ntmps25
  go_wp2
  go_loop [5, 7] (fun p i => ∃ k : Nat, (k : Int) ≤ n.toNat ∧ i = .int .i64 k ∧ p = .int .u8 (b8 (gpow a k))) (fun _ i => (n - intOf i).toNat)
  case atStart => exact ⟨0, by omega, rfl, rfl⟩
  case round =>
    obtain ⟨k, hk, rfl, rfl⟩ := hrel
    by_cases hlt : (k : Int) < n
    · go_wp2_with (go_at_call 22; with_reducible refine (times1_c _ _ _).mono ?_; rintro e w' ⟨rfl, rfl⟩)
      exact ⟨⟨k + 1, by omega, by go_num, rfl⟩, by simp [intOf]; omega⟩
    · have : k = n.toNat := by omega
      go_wp2
      go_ret
      exact ⟨by rw [← this]; rfl, rfl⟩
attribute [local irreducible] gmul gpow ginv
/-- The element that makes one with another; nought of nought. -/
def inv0 (a : UInt8) : UInt8 := if a = 0 then 0 else ginv a
theorem u8_ofInt (k : Nat) (h : k < 256) : IntKind.u8.wrap (k : Int) = b8 (UInt8.ofNat k) := by
  rw [u8_nat k h]; exact IntWalk.u8_in _ (by omega)
set_option maxRecDepth 8000 in
theorem inverse1_c (a : UInt8) (w : World) : Calls Try.prog 24 #[.int .u8 (b8 a)] w fun e w' => e = .returned (.int .u8 (b8 (inv0 a))) ∧ w = w' := by
  have HI : ∀ b : UInt8, (gmul a b = 1) ↔ (a ≠ 0 ∧ b = ginv a) := fun b => ⟨fun h => ⟨fun e => by rw [e, zero_gmul] at h; exact absurd h (by decide), inv_uniq a b h⟩, fun ⟨h1, h2⟩ => by rw [h2]; exact gmul_inv a h1⟩
  have HJ := Lib.hid HI; clear HI
  go_enter Try.func24, Try.ntmps24
  go_wp2
  go_loop [3] (fun i => ∃ k : Nat, 1 ≤ k ∧ k ≤ 256 ∧ i = .int .i64 k ∧ Hid (∀ j, 1 ≤ j → j < k → gmul a (UInt8.ofNat j) ≠ 1)) (fun i => 256 - (intOf i).toNat)
  case atStart => exact ⟨1, by omega, by omega, rfl, Lib.hid fun j h1 h2 => by omega⟩
  case round =>
    obtain ⟨k, hk1, hk, rfl, HN⟩ := hrel
    by_cases hlt : k < 256
    · have h0 := times1_c a (UInt8.ofNat k)
      rw [u8_nat k hlt] at h0
      obtain ⟨x, hx⟩ : ∃ x, gmul a (UInt8.ofNat k) = x := ⟨_, rfl⟩
      rw [hx] at h0
      have H0 := Lib.hid h0; clear h0
      have HX := Lib.hid hx; clear hx
      by_cases hg : x = 1
      · have e1 : decide (x = 1) = true := by simpa using hg
        have HG := Lib.hid hg; clear hg
        go_wp2_with (go_at_call 22; with_reducible refine (H0.out _).mono ?_; rintro e w' ⟨rfl, rfl⟩)
        go_ret
        obtain ⟨h1, h2⟩ := (HJ.out _).1 (HX.out.trans HG.out)
        refine ⟨ret_int ?_, rfl⟩
        rw [← u8_nat k hlt, h2, inv0, if_neg h1]
      · have e1 : decide (x = 1) = false := by simpa using hg
        have HG := Lib.hid hg; clear hg
        go_wp2_with (go_at_call 22; with_reducible refine (H0.out _).mono ?_; rintro e w' ⟨rfl, rfl⟩)
        refine ⟨⟨k + 1, by omega, by omega, by go_num, Lib.hid fun j h1 h2 => ?_⟩, by simp [intOf]; omega⟩
        by_cases e : j = k
        · subst e; rw [HX.out]; exact HG.out
        · exact HN.out j h1 (by omega)
    · obtain rfl : k = 256 := by omega
      go_wp2
      go_ret
      refine ⟨ret_int ?_, rfl⟩
      by_cases h1 : a = 0
      · rw [inv0, if_pos h1]; rfl
      · exfalso
        have hne := ginv_ne a h1
        have h3 : (ginv a).toNat ≠ 0 := fun e => hne (by apply UInt8.toNat_inj.1; simpa using e)
        have := HN.out (ginv a).toNat (by omega) (ginv a).toNat_lt
        rw [UInt8.ofNat_toNat] at this
        exact this (gmul_inv a h1)
end Go.Proofs.Ytmcgcfbdofpfdaa
