/- The field of 256: a product bit by bit; the walks of Times and times1. -/
import Derived.Test.YtmcgcfbdofpfdaaBase2
namespace Go.Proofs.Ytmcgcfbdofpfdaa
open Go.RowKit

def xt (x : UInt8) : UInt8 := if x ≥ 128 then (x <<< 1) ^^^ 29 else x <<< 1
def xtI : Nat → UInt8 → UInt8
  | 0, x => x
  | n + 1, x => xt (xtI n x)
def tb (b : UInt8) (i : Nat) : Bool := b.toNat.testBit i
def gmulTo (a b : UInt8) : Nat → UInt8
  | 0 => 0
  | i + 1 => if tb b i then gmulTo a b i ^^^ xtI i a else gmulTo a b i
/-- The product. -/
def gmul (a b : UInt8) : UInt8 := gmulTo a b 8
/-- So many bits struck at the lower end. -/
def shrN (b : UInt8) (i : Nat) : UInt8 := UInt8.ofNat (b.toNat / 2 ^ i)

theorem all8 {P : UInt8 → Prop} (h : ∀ n : Fin 256, P (UInt8.ofNat n.val)) (x : UInt8) : P x := by
  have := h ⟨x.toNat, x.toNat_lt⟩
  simpa using this
theorem shrN_toNat (b : UInt8) (i : Nat) : (shrN b i).toNat = b.toNat / 2 ^ i := by
  unfold shrN; rw [UInt8.toNat_ofNat']
  exact Nat.mod_eq_of_lt (Nat.lt_of_le_of_lt (Nat.div_le_self _ _) b.toNat_lt)
theorem s_shrv (b : UInt8) (yk : IntKind) (i : Nat) : Op.shift .shr .u8 (b8 b) yk (i : Int) = pure (.int .u8 (b8 (shrN b i))) := by
  rw [shift_shr_any _ _ _ _ (by omega), Int.toNat_natCast]
  congr 2
  unfold b8
  rw [shrN_toNat]
  show (b.toNat : Int) / 2 ^ (min i 8) = ((b.toNat / 2 ^ i : Nat) : Int)
  rw [Int.natCast_ediv]
  rcases Nat.le_total i 8 with h | h
  · rw [Nat.min_eq_left h]; simp
  · rw [Nat.min_eq_right h]
    have h1 : b.toNat / 2 ^ 8 = 0 := Nat.div_eq_of_lt b.toNat_lt
    have h2 : b.toNat / 2 ^ i = 0 := Nat.div_eq_of_lt (Nat.lt_of_lt_of_le b.toNat_lt (Nat.pow_le_pow_right (by omega) h))
    have e1 : ((b.toNat / 2 ^ 8 : Nat) : Int) = (b.toNat : Int) / 2 ^ 8 := by simp
    have e2 : ((b.toNat / 2 ^ i : Nat) : Int) = (b.toNat : Int) / ((2 ^ i : Nat) : Int) := by simp
    rw [← e1, ← e2, h1, h2]
theorem b_and1 (b : UInt8) : bits .and .u8 (b8 b) 1 = b8 (b &&& 1) := b_and b 1
theorem t_and1 (b : UInt8) (i : Nat) : (b8 (shrN b i &&& 1) == 1) = tb b i := by
  unfold b8 tb
  rw [UInt8.toNat_and, shrN_toNat, show (1 : UInt8).toNat = 1 from rfl, Nat.and_one_is_mod, Nat.testBit_eq_decide_div_mod_eq]
  generalize b.toNat / 2 ^ i % 2 = q
  rw [Bool.eq_iff_iff, beq_iff_eq, decide_eq_true_eq]; omega
theorem u8_i64 (x : UInt8) : IntKind.i64.wrap (b8 x) = b8 x := IntWalk.i64_in _ (by have := u8_r x; omega)
theorem u8_u8 (x : UInt8) : IntKind.u8.wrap (b8 x) = b8 x := IntWalk.u8_in _ (by have := u8_r x; omega)
theorem i64_xor_nat (a b : Nat) (ha : a < 9223372036854775808) (hb : b < 9223372036854775808) : bits .xor .i64 (a : Int) (b : Int) = ((a ^^^ b : Nat) : Int) := by
  have hx : a ^^^ b < 2 ^ 63 := Nat.xor_lt_two_pow (by omega) (by omega)
  have e : ∀ c : Nat, c < 9223372036854775808 → (BitVec.ofInt 64 (c : Int)).toNat = c := fun c hc => by
    rw [BitVec.ofInt_natCast, BitVec.toNat_ofNat]; exact Nat.mod_eq_of_lt (by omega)
  show IntKind.i64.wrap ((BitVec.ofInt 64 (a : Int) ^^^ BitVec.ofInt 64 (b : Int)).toNat : Int) = _
  rw [BitVec.toNat_xor, e a ha, e b hb, IntKind.wrap_i64]
  omega
theorem i_xor (a b : UInt8) : bits .xor .i64 (b8 a) (b8 b) = b8 (a ^^^ b) := by
  unfold b8
  rw [i64_xor_nat _ _ (by have := a.toNat_lt; omega) (by have := b.toNat_lt; omega), UInt8.toNat_xor]
theorem xt_hi (x : UInt8) (h : 255 < b8 x * 2) : bits .xor .i64 (b8 x * 2) 285 = b8 (xt x) := by
  have hx := x.toNat_lt
  unfold b8 at h ⊢
  rw [show (x.toNat : Int) * 2 = ((x.toNat * 2 : Nat) : Int) from by omega, show (285 : Int) = ((285 : Nat) : Int) from rfl, i64_xor_nat _ _ (by omega) (by omega)]
  congr 1
  have h2 : 128 ≤ x.toNat := by omega
  clear h
  revert h2 hx
  generalize hn : x.toNat = n
  have : x = UInt8.ofNat n := by rw [← hn]; simp
  rw [this]
  intro hx h2
  have key : ∀ n : Fin 256, 128 ≤ n.val → n.val * 2 ^^^ 285 = (xt (UInt8.ofNat n.val)).toNat := by decide +kernel
  exact key ⟨n, hx⟩ h2
theorem xt_lo (x : UInt8) (h : ¬ 255 < b8 x * 2) : b8 x * 2 = b8 (xt x) := by
  have hx := x.toNat_lt
  unfold b8 at h ⊢
  rw [show (x.toNat : Int) * 2 = ((x.toNat * 2 : Nat) : Int) from by omega]
  congr 1
  have h2 : x.toNat < 128 := by omega
  clear h
  revert h2 hx
  generalize hn : x.toNat = n
  have : x = UInt8.ofNat n := by rw [← hn]; simp
  rw [this]
  intro hx h2
  have key : ∀ n : Fin 256, n.val < 128 → n.val * 2 = (xt (UInt8.ofNat n.val)).toNat := by decide +kernel
  exact key ⟨n, hx⟩ h2

attribute [local go_sem ↓] s_shrv
attribute [local go_sem] b_and1 t_and1 u8_i64 u8_u8 i_xor
theorem times_c (a b : UInt8) (w : World) : Calls Try.prog 21 #[.int .u8 (b8 a), .int .u8 (b8 b)] w fun e w' => e = .returned (.int .u8 (b8 (gmul a b))) ∧ w = w' := by
  have hr : ∀ x, 0 ≤ b8 x ∧ b8 x < 256 := u8_r
  go_enter Try.func21, Try.ntmps21
  go_wp2
  go_loop [5, 6, 10] (fun p x i => ∃ k : Nat, k ≤ 8 ∧ i = .int .i64 k ∧ p = .int .i64 (b8 (gmulTo a b k)) ∧ x = .int .i64 (b8 (xtI k a))) (fun _ _ i => 8 - (intOf i).toNat)
  case atStart => exact ⟨0, by omega, rfl, rfl, rfl⟩
  case round =>
    obtain ⟨k, hk, rfl, rfl, rfl⟩ := hrel
    by_cases hlt : k < 8
    · generalize hx : xtI k a = x
      generalize hp : gmulTo a b k = p
      have hxr := u8_r x
      have HX := Lib.hid hx; clear hx
      have HP := Lib.hid hp; clear hp
      cases hb : tb b k
      all_goals
        by_cases hov : 255 < b8 x * 2
        all_goals
          have h2 : (255 < b8 x * 2 → bits .xor .i64 (b8 x * 2) 285 = b8 (xt x)) := xt_hi x
          go_wp2
          refine ⟨⟨k + 1, by omega, by go_num, ?_, ?_⟩, by simp [intOf]; omega⟩
          · simp [gmulTo, hb, HP.out, HX.out]
          · first | (simp [xtI, HX.out, xt_lo x hov]; done) | simp [xtI, HX.out]
    · obtain rfl : k = 8 := by omega
      go_wp2
      go_ret
      exact ⟨rfl, rfl⟩

/-! ### the statement's own product -/
theorem xtI_shift (n : Nat) : ∀ x, xtI n (xt x) = xt (xtI n x) := by
  induction n with
  | zero => intro x; rfl
  | succ n ih => intro x; simp only [xtI, ih]
theorem gmulTo_stop (a b : UInt8) (k m : Nat) (h : b.toNat / 2 ^ k = 0) : gmulTo a b (k + m) = gmulTo a b k := by
  induction m with
  | zero => rfl
  | succ m ih =>
    show (if tb b (k + m) then _ else _) = _
    have : tb b (k + m) = false := by
      unfold tb
      apply Nat.testBit_lt_two_pow
      have h1 : b.toNat < 2 ^ k := by
        rcases Nat.lt_or_ge b.toNat (2 ^ k) with h' | h'
        · exact h'
        · have := Nat.div_pos h' (Nat.two_pow_pos k); omega
      exact Nat.lt_of_lt_of_le h1 (Nat.pow_le_pow_right (by omega) (by omega))
    rw [this]
    simpa using ih
theorem gmulTo_end (a b : UInt8) (k : Nat) (hk : k ≤ 8) (h : b.toNat / 2 ^ k = 0) : gmulTo a b k = gmul a b := by
  have := gmulTo_stop a b k (8 - k) h
  rw [show k + (8 - k) = 8 by omega] at this
  exact this.symm
theorem div_succ (b : UInt8) (k : Nat) : ((b.toNat / 2 ^ k : Nat) : Int) / 2 = ((b.toNat / 2 ^ (k + 1) : Nat) : Int) := by
  rw [Nat.pow_succ, ← Nat.div_div_eq_div_mul]; rfl
theorem tb_div (b : UInt8) (k : Nat) : (((b.toNat / 2 ^ k : Nat) : Int) % 2 == 1) = tb b k := by
  unfold tb
  rw [Nat.testBit_eq_decide_div_mod_eq]
  generalize b.toNat / 2 ^ k = q
  rw [Bool.eq_iff_iff, beq_iff_eq, decide_eq_true_eq]; omega
theorem times1_c (a b : UInt8) (w : World) : Calls Try.prog 22 #[.int .u8 (b8 a), .int .u8 (b8 b)] w fun e w' => e = .returned (.int .u8 (b8 (gmul a b))) ∧ w = w' := by
  have hb0 := b.toNat_lt
  go_enter Try.func22, Try.ntmps22
  go_wp2
  go_loop [5, 6, 7] (fun p x y => ∃ k : Nat, ∃ q : Nat, k ≤ 8 ∧ q < 256 ∧ y = .int .i64 (q : Int) ∧ Hid (q = b.toNat / 2 ^ k) ∧ p = .int .i64 (b8 (gmulTo a b k)) ∧ x = .int .i64 (b8 (xtI k a))) (fun _ _ y => (intOf y).toNat)
  case atStart => exact ⟨0, b.toNat, by omega, b.toNat_lt, rfl, Lib.hid (by simp), rfl, rfl⟩
  case round =>
    obtain ⟨k, q, hk, hq, rfl, HQ, rfl, rfl⟩ := hrel
    by_cases hlt : 0 < q
    · generalize hx : xtI k a = x
      generalize hp : gmulTo a b k = p
      have hxr := u8_r x
      have HX := Lib.hid hx; clear hx
      have HP := Lib.hid hp; clear hp
      have hk8 : k < 8 := by
        rcases Nat.lt_or_ge k 8 with h | h
        · exact h
        · exfalso
          have := HQ.out
          rw [show k = 8 by omega, Nat.div_eq_of_lt hb0] at this
          omega
      have ht : ((q : Int) % 2 == 1) = tb b k := by rw [HQ.out]; exact tb_div b k
      have hd : Hid (q / 2 = b.toNat / 2 ^ (k + 1)) := by
        have := div_succ b k
        rw [HQ.out]; exact Lib.hid (by exact_mod_cast this)
      clear hb0
      cases hb : tb b k
      all_goals
        by_cases hov : 255 < 2 * b8 x
        all_goals
          have h2 : (255 < 2 * b8 x → bits .xor .i64 (2 * b8 x) 285 = b8 (xt x)) := by rw [Int.mul_comm]; exact xt_hi x
          go_wp2
          refine ⟨⟨k + 1, q / 2, by omega, by omega, by go_num, hd, ?_, ?_⟩, by simp [intOf]; omega⟩
          · simp [gmulTo, hb, HP.out, HX.out]
          · first | (have h3 := xt_lo x (by omega); rw [Int.mul_comm] at h3; simp [xtI, HX.out, h3]; done) | simp [xtI, HX.out]
    · obtain rfl : q = 0 := by omega
      clear hb0
      go_wp2
      go_ret
      exact ⟨by rw [gmulTo_end a b k hk HQ.out.symm]; rfl, rfl⟩
end Go.Proofs.Ytmcgcfbdofpfdaa
